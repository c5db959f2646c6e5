/- hayloftref06: List, Names. -/
import Derived.Test.YtgehalfnpbjjcaaGreatRefF
namespace Go.Proofs.YtgehalfnpbjjcaaGreat
open Go Go.RowKit Go.Sort
theorem etStr : ET Tryz.prog 43 9 1 16 (.string ByteArray.empty) := ⟨Tryz.underlying43, by kernel_rfl, by kernel_rfl, by decide, by decide⟩
theorem flat_strings (l : List ByteArray) : l.flatMap (fun s => [Value.string s]) = l.map Value.string := by
  induction l with
  | nil => rfl
  | cons a l ih => rw [List.flatMap_cons, ih]; rfl
set_option maxRecDepth 100000 in
set_option maxHeartbeats 800000 in
/-- Of the same names. -/
theorem r06Names_ok {S S' : Nat → Prop} (a a' : Option Addr) (c c' : Nat) (l : List ByteArray) (w : World) (h : Row S w (.slice a l.length c) l.length 1 (l.map Value.string)) (h' : Row S' w (.slice a' l.length c') l.length 1 (l.map Value.string)) :
    Calls Tryz.prog 42 #[.slice a l.length c, .slice a' l.length c'] w fun e w' => e = .returned (.bool true) ∧ Below w.heap.size w w' := by
  have hr := h
  have hr' := h'
  rw [← flat_strings] at hr hr'
  have HR := hid hr
  have HR' := hid hr'
  have hne : ((l.length : Int) != (l.length : Int)) = false := by simp
  clear h h' hr hr'
  go_enter Tryz.func42, Tryz.ntmps42
  go_wp2
  go_loopw [5] (fun i wr => ∃ k m : Nat, k ≤ l.length ∧ i = .int .i64 k ∧ wr = w.drewN m) (fun i _ => l.length - (intOf i).toNat)
  case atStart => exact ⟨0, 0, by omega, rfl, rfl⟩
  case round =>
    obtain ⟨k, m, hk, rfl, rfl⟩ := hrel
    by_cases hlt : k < l.length
    · obtain ⟨x, hx⟩ : ∃ x, l[k]? = some x := ⟨_, List.getElem?_eq_getElem hlt⟩
      obtain ⟨b, off, rfl, hb, _, e1, e2, hcell⟩ := HR.out.elem (f := fun s => [Value.string s]) (fun _ => rfl) (by decide) hx
      obtain ⟨b', off', rfl, hb', _, e1', e2', hcell'⟩ := HR'.out.elem (f := fun s => [Value.string s]) (fun _ => rfl) (by decide) hx
      have hcx : w.cell? ⟨b, off + k, none⟩ = some (.string x) := by
        have h9 : w.cell? ⟨b, off + (k * 1 + 0), none⟩ = some (.string x) := hcell 0 _ rfl
        rw [Nat.mul_one] at h9
        exact h9
      have hcy : w.cell? ⟨b', off' + k, none⟩ = some (.string x) := by
        have h9 : w.cell? ⟨b', off' + (k * 1 + 0), none⟩ = some (.string x) := hcell' 0 _ rfl
        rw [Nat.mul_one] at h9
        exact h9
      have hd : decide ((k : Int) < (l.length : Int)) = true := by simp; omega
      unfold maxLen at e2
      clear hcell hcell' hx
      go_wp2
      go_quiet (fail)
      go_wp2
      go_roundw
      case rel => exact ⟨k + 1, _, by omega, by go_num, rfl⟩
      case measure => simp [intOf]; omega
    · obtain rfl : k = l.length := by omega
      go_wp2
      go_ret
      exact ⟨rfl, ⟨rfl, rfl, rfl, Nat.le_refl _, fun _ _ => rfl⟩⟩
set_option maxHeartbeats 1000000 in
set_option maxRecDepth 100000 in
theorem r06List_ok {F D : Nat → Prop} {rb : Nat} {st : RSt} (w : World) (h : RSr w F D rb st) (hl : st.seen.length ≤ 1000000) :
    Calls Tryz.prog 43 #[.pointer (some ⟨rb, 0, none⟩)] w fun e w' => ∃ a c, e = .returned (.slice a (rlist st).length c) ∧ Own w' w.heap.size 9 1 (.slice a (rlist st).length c) (rlist st).length ((rlist st).map Value.string) ∧ Below w.heap.size w w' := by
  have HR := hid h
  clear h
  go_enter Tryz.func43, Tryz.ntmps43
  go_wp2
  go_loopg [3, 4] st.seen.length (fun kx s3 s4 wr => ∃ (i : Nat) (a : Option Addr) (c : Nat), s4 = .int .i64 i ∧ s3 = .slice a i c ∧ i ≤ st.seen.length ∧ st.seen.length - i ≤ kx ∧ (st.down = true → i = 0) ∧ Hid (Own wr w.heap.size 9 1 (.slice a i c) i (((st.seen.take i).map Prod.fst).map Value.string)) ∧ Hid (Below w.heap.size w wr))
  case atStart => exact ⟨0, none, 0, rfl, rfl, Nat.zero_le _, Nat.le_refl _, fun _ => rfl, hid (Own.nil _ _ _ _), hid (Below.refl _ _)⟩
  case round =>
    obtain ⟨i, a', c', rfl, rfl, hi, hk, hz, HO, HB⟩ := hrel
    have hr := HR.out.below HB.out
    obtain ⟨fs, vf, vs, va, vc, he, hb, hh⟩ := hr.lies
    obtain ⟨_, a0, c0, rfl, _⟩ := id hb.seen
    have k2 : wr.cell? ⟨rb, 2, none⟩ = some (.slice a0 st.seen.length c0) := cell_of_heap hh 2
    have k6 : wr.cell? ⟨rb, 6, none⟩ = some (.bool st.down) := cell_of_heap hh 6
    by_cases hlt : i < st.seen.length
    · have hlt' : (i : Int) < (st.seen.length : Int) := by omega
      cases hd : st.down with
      | true =>
        have hi0 := hz hd
        rw [hd] at k6
        have hrl : rlist st = [] := by unfold rlist; rw [hd]; rfl
        have HRL := hid hrl
        clear hr he hb hh hz hrl
        go_wp2
        go_ret
        rw [HRL.out]
        subst hi0
        exact ⟨a', c', rfl, by simpa using HO.out, HB.out⟩
      | false =>
        rw [hd] at k6
        obtain ⟨p, hp⟩ : ∃ p, st.seen[i]? = some p := ⟨_, List.getElem?_eq_getElem hlt⟩
        obtain ⟨sb, so, rfl, hsb, _, hc1, hc2, hcell⟩ := hb.seen.elem rentC_len (by decide) hp
        have j0 : wr.cell? ⟨sb, so + i * 2, none⟩ = some (.string p.1) := hcell 0 _ rfl
        have htk : ((st.seen.take (i + 1)).map Prod.fst).map Value.string = ((st.seen.take i).map Prod.fst).map Value.string ++ [Value.string p.1] := by
          rw [List.take_add_one, hp]
          simp
        have HTK := hid htk
        clear hr he hb hh hz hcell hp htk
        go_wp2_with (at_builtin; refine wpl_append (S := fun _ => False) (base := w.heap.size) (n := i) (xs := ((st.seen.take i).map Prod.fst).map Value.string) (news := [Value.string p.1]) (m := 1) rfl rfl etStr rfl (HO.out.fr ((Fr.refl (fun _ => False) _).alloc _) (fun _ _ => id)) rfl (row_new 9 rfl) (by simp [Value.oneCell']) (by omega) (Nat.le_trans HB.out.size (by simp)) ?_; intro v7 w7 ho7 hf7 hm7; obtain ⟨a7, c7, rfl, _⟩ := ho7.len; have HO7 := hid (show Own w7 w.heap.size 9 1 (.slice a7 (i + 1) c7) (i + 1) (((st.seen.take (i + 1)).map Prod.fst).map Value.string) from by rw [HTK.out]; exact ho7); have HB7 := hid (own_below HO.out HB.out ((Below.refl _ _).alloc (Nat.le_refl _) _) hf7); clear ho7 hf7 hm7)
        go_roundg (st.seen.length - (i + 1))
        case measure => exact meas_lt hk hlt
        case rel => exact ⟨i + 1, a7, c7, by go_num, rfl, hlt, Nat.le_refl _, (fun h9 => by first | cases h9 | (rw [hd] at h9; cases h9)), HO7, HB7⟩
    · obtain rfl : i = st.seen.length := by omega
      have hlt' : ¬ (st.seen.length : Int) < (st.seen.length : Int) := by omega
      have hrl : (st.seen.take st.seen.length).map Prod.fst = rlist st ∧ (rlist st).length = st.seen.length := by
        unfold rlist
        rw [List.take_length]
        cases hd : st.down with
        | true =>
          have h0 := hz hd
          have : st.seen = [] := List.eq_nil_of_length_eq_zero h0
          rw [this]
          exact ⟨rfl, rfl⟩
        | false => exact ⟨rfl, by simp⟩
      have HRL := hid hrl
      clear hr he hb hh hz hrl
      go_wp2
      go_ret
      refine ⟨a', c', ?_, ?_, HB.out⟩
      · rw [HRL.out.2]; rfl
      · rw [HRL.out.2, ← HRL.out.1]
        exact HO.out
end Go.Proofs.YtgehalfnpbjjcaaGreat
