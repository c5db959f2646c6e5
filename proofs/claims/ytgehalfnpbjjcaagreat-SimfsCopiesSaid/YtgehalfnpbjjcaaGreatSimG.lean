/- simfs: bytes.Clone, Read, Size, Down, Steps, Arm, New. -/
import Derived.Test.YtgehalfnpbjjcaaGreatSimF
namespace Go.Proofs.YtgehalfnpbjjcaaGreat
open Go Go.RowKit Go.Sort
set_option maxRecDepth 100000 in
set_option maxHeartbeats 400000 in
theorem cloneBB_ok {S : Nat → Prop} (v : Value) (xs : List UInt8) (w : World) (h : Bs S w v xs) :
    Calls Tryz.prog 41 #[v] w fun e w' => ∃ a c, e = .returned (.slice a xs.length c) ∧ OwnB w' w.heap.size (.slice a xs.length c) xs ∧ Below w.heap.size w w' := by
  have hr := h.row
  obtain ⟨a, c, rfl, ⟨hc, hlen, hm⟩, hn, h4⟩ := h
  have hq := fun W => eql_slice_nil (P := Tryz.prog) W a xs.length c Tryz.underlying33
  have HR := hid hr
  clear hr
  cases a with
  | none =>
    obtain rfl : xs = [] := by
      rcases h4 with h | ⟨b, off, h, _⟩
      · exact h
      · cases h
    obtain rfl : c = 0 := hn rfl
    clear h4 hn hq
    have hq0 := fun W => eql_slice_nil (P := Tryz.prog) W none 0 0 Tryz.underlying33
    go_enter Tryz.func41, Tryz.ntmps41
    go_wp2
    go_ret
    exact ⟨none, 0, rfl, Own.nil _ _ _ _, Below.refl _ _⟩
  | some a =>
    clear h4 hn
    go_enter Tryz.func41, Tryz.ntmps41
    go_wp2_with (at_builtin; refine wpl_append (S := S) (base := w.heap.size) (n := 0) (xs := []) rfl rfl etB rfl (own_empty _ _ _ _ _) rfl (HR.out.fr ((Fr.refl (fun _ => False) w).alloc _) (fun _ _ h => h.elim)) (bcells_one xs) (by omega) (by simp) ?_; intro v' w1 ho hf hmm; obtain ⟨a', c', rfl, _⟩ := ho.len; have HO := hid (And.intro ho hf); clear ho hf hmm)
    go_ret
    obtain ⟨ho, hf⟩ := HO.out
    simp only [Nat.zero_add, List.nil_append] at ho
    refine ⟨a', c', by simp, ho, Below.fr ((Below.refl _ _).alloc (Nat.le_refl _) _) hf (fun i hi hm => ?_)⟩
    obtain ⟨off, n, c, hv, hc⟩ := hm
    injection hv with e1 e2 e3
    exact hc e3.symm
theorem findF_some {st : FSt} {n : ByteArray} {o : Option Nat} (h : findF st n = (0, o)) : ∃ p, o = some p := by
  unfold findF at h
  split at h
  · cases h
  · split at h
    · split at h
      · cases h
      · rename_i p hp; exact ⟨p, by injection h with _ h; exact h.symm⟩
    · cases h
theorem readF_no {st : FSt} {n : ByteArray} {f : Int} {o : Option Nat} (h : findF st n = (f, o)) (hf : f ≠ 0) : readF st n = ([], f) := by
  unfold readF
  rw [h]
  split
  · rename_i h; injection h with h _; exact absurd h hf
  · rename_i h; injection h with h _; rw [h]
theorem readF_yes {st : FSt} {n : ByteArray} {p : Nat} (h : findF st n = (0, some p)) : readF st n = (bytesF st p, 0) := by
  unfold readF
  rw [h]
  rfl
theorem appendF_no {st : FSt} {n : ByteArray} {b : List UInt8} {f : Int} {o : Option Nat} (h : findF st n = (f, o)) (hf : f ≠ 0) : appendF st n b = (st, f) := by
  unfold appendF
  rw [h]
  split
  · rename_i h; injection h with h _; exact absurd h hf
  · rename_i h; injection h with h _; rw [h]
theorem appendF_yes {st : FSt} {n : ByteArray} {b : List UInt8} {p : Nat} (h : findF st n = (0, some p)) : appendF st n b = if st.room - usedF st < b.length then (st, 11) else goF st fun s => match s.files p with | some x => { s with files := putFil s.files p ⟨x.b ++ b, x.safe⟩ } | none => s := by
  unfold appendF
  rw [h]
  rfl
theorem fsyncF_no {st : FSt} {n : ByteArray} {f : Int} {o : Option Nat} (h : findF st n = (f, o)) (hf : f ≠ 0) : fsyncF st n = (st, f) := by
  unfold fsyncF
  rw [h]
  split
  · rename_i h; injection h with h _; exact absurd h hf
  · rename_i h; injection h with h _; rw [h]
theorem fsyncF_yes {st : FSt} {n : ByteArray} {p : Nat} (h : findF st n = (0, some p)) : fsyncF st n = goF st fun s => match s.files p with | some x => { s with files := putFil s.files p ⟨x.b, x.b.length⟩ } | none => s := by
  unfold fsyncF
  rw [h]
  rfl
theorem flipF_no {st : FSt} {n : ByteArray} {i : Int} {u : UInt8} {f : Int} {o : Option Nat} (h : findF st n = (f, o)) (hf : f ≠ 0) : flipF st n i u = (st, f) := by
  unfold flipF
  rw [h]
  split
  · rename_i h; injection h with h _; exact absurd h hf
  · rename_i h; injection h with h _; rw [h]
theorem flipF_yes {st : FSt} {n : ByteArray} {i : Int} {u : UInt8} {p : Nat} (h : findF st n = (0, some p)) : flipF st n i u = if i < 0 ∨ ((bytesF st p).length : Int) ≤ i then (st, (1 : Int)) else
      (match st.files p with | some y => { st with files := putFil st.files p ⟨y.b.modify i.toNat (· ^^^ u), y.safe⟩ } | none => st, 0) := by
  unfold flipF
  rw [h]
  rfl
set_option maxRecDepth 100000 in
theorem fsRead_ok {F D : Nat → Prop} {sb : Nat} {st : FSt} (w : World) (h : FSr w F D sb st) (n : ByteArray) :
    Calls Tryz.prog 11 #[.pointer (some ⟨sb, 0, none⟩), .string n] w fun e w' => ∃ a c, e = .returned (.tuple #[.slice a (readF st n).1.length c, .int .i64 (readF st n).2]) ∧ OwnB w' w.heap.size (.slice a (readF st n).1.length c) (readF st n).1 ∧ Below w.heap.size w w' := by
  have HF := hid (fsFind_ok w h n)
  have HH := hid h
  cases hfo : findF st n with
  | mk f o =>
  rw [hfo] at HF
  unfold findC at HF
  by_cases h0 : f = 0
  · subst h0
    obtain ⟨p, rfl⟩ := findF_some hfo
    have hmem := mem_seen hfo
    obtain ⟨x, hx⟩ := Option.isSome_iff_exists.1 (h.ok.seenI _ hmem).1
    simp only at hx
    have hbx : bytesF st p = x.b := by unfold bytesF; rw [hx]
    rw [readF_yes hfo, hbx]
    have HX := hid hx
    have HRD := hid (show ∀ w1, Below w.heap.size w w1 → ∃ a c, w1.cell? ⟨p, 0, none⟩ = some (.slice a x.b.length c) ∧ Bs (fun k => D k → F k) w1 (.slice a x.b.length c) x.b from fun w1 hb => by
      obtain ⟨m1, m2, ca, cc, ho⟩ := (HH.out.below hb).lies
      obtain ⟨_, v, hv, hbs⟩ := ho.files p x HX.out
      obtain ⟨a, c, rfl, _⟩ := id hbs
      exact ⟨a, c, cell_of_heap hv 0, hbs⟩)
    simp only [Option.map_some] at HF
    clear hfo hmem hx hbx h
    go_enter Tryz.func11, Tryz.ntmps11
    go_wp2_with (first | (go_at_call 40; refine HF.out.mono ?_; rintro e w1 ⟨rfl, hb1⟩; obtain ⟨xa, xc, hxc, hxb⟩ := HRD.out w1 hb1; have HXB := hid hxb; have HB1 := hid hb1; clear hb1 hxb) | (go_at_call 41; refine (cloneBB_ok _ _ _ HXB.out).mono ?_; rintro e w2 ⟨a, c, rfl, ho, hb2⟩; have HO := hid ho; have HB2 := hid hb2; clear ho hb2))
    go_ret2
    exact ⟨a, c, rfl, Own.mono HO.out HB1.out.size, Below.below HB1.out HB2.out⟩
  · have g1 : (f != 0) = true := by simpa using h0
    rw [readF_no hfo h0]
    clear hfo
    generalize Option.map (fun p => (⟨p, 0, none⟩ : Addr)) o = po at HF
    go_enter Tryz.func11, Tryz.ntmps11
    go_wp2_with (go_at_call 40; refine HF.out.mono ?_; rintro e w1 ⟨rfl, hb1⟩; have HB1 := hid hb1; clear hb1)
    go_ret2
    exact ⟨none, 0, rfl, Own.nil _ _ _ _, HB1.out⟩
set_option maxRecDepth 100000 in
theorem fsSize_ok {F D : Nat → Prop} {sb : Nat} {st : FSt} (w : World) (h : FSr w F D sb st) (n : ByteArray) :
    Calls Tryz.prog 21 #[.pointer (some ⟨sb, 0, none⟩), .string n] w fun e w' => e = .returned (.tuple #[.int .i64 ((readF st n).1.length : Nat), .int .i64 (readF st n).2]) ∧ Below w.heap.size w w' := by
  have HF := hid (fsFind_ok w h n)
  have HH := hid h
  cases hfo : findF st n with
  | mk f o =>
  rw [hfo] at HF
  unfold findC at HF
  by_cases h0 : f = 0
  · subst h0
    obtain ⟨p, rfl⟩ := findF_some hfo
    have hmem := mem_seen hfo
    obtain ⟨x, hx⟩ := Option.isSome_iff_exists.1 (h.ok.seenI _ hmem).1
    simp only at hx
    have hbx : bytesF st p = x.b := by unfold bytesF; rw [hx]
    rw [readF_yes hfo, hbx]
    have HX := hid hx
    have HRD := hid (show ∀ w1, Below w.heap.size w w1 → ∃ a c, w1.cell? ⟨p, 0, none⟩ = some (.slice a x.b.length c) from fun w1 hb => by
      obtain ⟨m1, m2, ca, cc, ho⟩ := (HH.out.below hb).lies
      obtain ⟨_, v, hv, hbs⟩ := ho.files p x HX.out
      obtain ⟨a, c, rfl, _⟩ := id hbs
      exact ⟨a, c, cell_of_heap hv 0⟩)
    simp only [Option.map_some] at HF
    clear hfo hmem hx hbx h
    go_enter Tryz.func21, Tryz.ntmps21
    go_wp2_with (go_at_call 40; refine HF.out.mono ?_; rintro e w1 ⟨rfl, hb1⟩; obtain ⟨xa, xc, hxc⟩ := HRD.out w1 hb1; have HB1 := hid hb1; clear hb1)
    go_ret2
    exact ⟨rfl, HB1.out⟩
  · have g1 : (f != 0) = true := by simpa using h0
    rw [readF_no hfo h0]
    clear hfo
    generalize Option.map (fun p => (⟨p, 0, none⟩ : Addr)) o = po at HF
    go_enter Tryz.func21, Tryz.ntmps21
    go_wp2_with (go_at_call 40; refine HF.out.mono ?_; rintro e w1 ⟨rfl, hb1⟩; have HB1 := hid hb1; clear hb1)
    go_ret2
    exact ⟨rfl, HB1.out⟩
set_option maxRecDepth 100000 in
theorem fsDown_ok {F D : Nat → Prop} {sb : Nat} {st : FSt} (w : World) (h : FSr w F D sb st) : Calls Tryz.prog 46 #[.pointer (some ⟨sb, 0, none⟩)] w fun e w' => e = .returned (.bool st.down) ∧ w' = w := by
  obtain ⟨m1, m2, ca, cc, hh⟩ := h.head
  have c6 : w.cell? ⟨sb, 6, none⟩ = some (.bool st.down) := cell_of_heap hh 6
  clear hh h
  go_enter Tryz.func46, Tryz.ntmps46
  go_wp2
  go_ret
  exact ⟨rfl, rfl⟩
theorem load64_ok (a : Addr) (n : Int) (w : World) (hc : w.cell? a = some (.int .i64 n)) : Calls Tryz.prog 67 #[.pointer (some a)] w fun e w' => e = .returned (.int .i64 n) ∧ w' = w := by
  have hl := run_call_load (P := Tryz.prog) Tryz.func78 (by kernel_rfl) (by kernel_rfl) (by kernel_rfl) .i64 (by kernel_rfl) hc
  go_enter Tryz.func67, Tryz.ntmps67
  go_wp2
  go_ret
  exact ⟨rfl, rfl⟩
set_option maxRecDepth 100000 in
theorem fsSteps_ok {F D : Nat → Prop} {sb : Nat} {st : FSt} (w : World) (h : FSr w F D sb st) : Calls Tryz.prog 37 #[.pointer (some ⟨sb, 0, none⟩)] w fun e w' => e = .returned (.int .i64 st.steps) ∧ w' = w := by
  obtain ⟨m1, m2, ca, cc, hh⟩ := h.head
  have c7 : w.cell? ⟨sb, 7, none⟩ = some (.int .i64 st.steps) := cell_of_heap hh 7
  have HL := hid (load64_ok _ _ _ c7)
  clear hh h
  go_enter Tryz.func37, Tryz.ntmps37
  go_wp2_with (go_at_call 67; refine HL.out.mono ?_; rintro e w1 ⟨rfl, rfl⟩)
  go_ret
  exact ⟨rfl, rfl⟩
set_option maxRecDepth 100000 in
theorem fsArm_ok {F D : Nat → Prop} {sb : Nat} {st : FSt} (w : World) (h : FSr w F D sb st) (n : Int) :
    Calls Tryz.prog 29 #[.pointer (some ⟨sb, 0, none⟩), .int .i64 n] w fun e w' => e = .returned (.int .i64 (armF st n).2) ∧ ∃ F' D', FSr w' F' D' sb (armF st n).1 ∧ Turn F D F' D' w w' := by
  obtain ⟨m1, m2, ca, cc, ho⟩ := h.lies
  have f4 := frozen_of ho.head 4
  have f5 := frozen_of ho.head 5
  have c4 : w.cell? ⟨sb, 4, none⟩ = some (.int .i64 st.left) := cell_of_heap ho.head 4
  have c5 : w.cell? ⟨sb, 5, none⟩ = some (.bool st.armed) := cell_of_heap ho.head 5
  have HI := hid (fsIs_ok w h)
  have h1 := ho.store (st' := { st with left := n }) 4 (.int .i64 n) rfl rfl rfl rfl rfl
  have h2 := h1.store (st' := { st with left := n, armed := true }) 5 (.bool true) rfl rfl rfl rfl rfl
  have g5 := frozen_of h1.head 5
  have H2 := hid h2
  have HH := hid h
  have HO := hid ho
  unfold isF at HI
  unfold armF
  clear h1 h2 ho h
  cases hd : st.down with
  | true =>
    rw [hd] at HI
    simp only [if_true] at HI ⊢
    go_enter Tryz.func29, Tryz.ntmps29
    go_wp2_with (go_at_call 53; refine HI.out.mono ?_; rintro e w1 ⟨rfl, rfl⟩)
    go_ret
    exact ⟨rfl, HH.out.same (Below.refl _ _)⟩
  | false =>
    rw [hd] at HI
    simp only [Bool.false_eq_true, if_false] at HI ⊢
    by_cases hn : n < 0
    · simp only [if_pos hn]
      go_enter Tryz.func29, Tryz.ntmps29
      go_wp2_with (go_at_call 53; refine HI.out.mono ?_; rintro e w1 ⟨rfl, rfl⟩)
      go_ret
      exact ⟨rfl, HH.out.same (Below.refl _ _)⟩
    · simp only [if_neg hn]
      have hn' : decide (n < 0) = false := decide_eq_false hn
      go_enter Tryz.func29, Tryz.ntmps29
      go_wp2_with (go_at_call 53; refine HI.out.mono ?_; rintro e w1 ⟨rfl, rfl⟩)
      go_ret
      refine ⟨rfl, ?_⟩
      have h9 := FSo.done (F := F) (D := D) (w := w1) (w1 := w1) H2.out ⟨HH.out.ok.room0, HH.out.ok.room1, HH.out.ok.seenN, HH.out.ok.safeN, HH.out.ok.seenI, HH.out.ok.safeI, HH.out.ok.chgI, HH.out.ok.fil⟩ (Below.refl _ _) (((Fr.refl _ _).setCell (p := ⟨sb, 4, none⟩) (fun _ => HO.out.self) _).setCell (p := ⟨sb, 5, none⟩) (fun _ => HO.out.self) _) (fun k h => .inl h) (fun k h => .inl h)
      rw [hd] at h9
      exact h9
end Go.Proofs.YtgehalfnpbjjcaaGreat
