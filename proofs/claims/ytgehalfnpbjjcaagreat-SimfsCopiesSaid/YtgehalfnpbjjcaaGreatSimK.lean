/- simfs: Rename. -/
import Derived.Test.YtgehalfnpbjjcaaGreatSimJ
namespace Go.Proofs.YtgehalfnpbjjcaaGreat
open Go Go.RowKit Go.Sort
theorem namesF_two (st : FSt) (a b : ByteArray) : namesF st [a, b] = if st.down then 12 else if nameR a && nameR b then 0 else 10 := by
  unfold namesF
  simp
theorem renameF_bad {st : FSt} {a b : ByteArray} (h : namesF st [a, b] ≠ 0) : renameF st a b = (st, namesF st [a, b]) := by
  rw [namesF_two] at h ⊢
  unfold renameF namedF
  cases hd : st.down
  · rw [hd] at h
    cases ha : nameR a
    · simp
    · cases hb : nameR b
      · simp
      · rw [ha, hb] at h
        simp at h
  · simp
theorem renameF_ok {st : FSt} {a b : ByteArray} (h : namesF st [a, b] = 0) : renameF st a b = match findF st a with
    | (0, some p) => goF st fun s => chgF s ⟨b, a, some p⟩
    | (f, _) => (st, f) := by
  rw [namesF_two] at h
  unfold renameF namedF
  cases hd : st.down
  · rw [hd] at h
    cases ha : nameR a
    · rw [ha] at h; simp at h
    · cases hb : nameR b
      · rw [ha, hb] at h; simp at h
      · simp only [Bool.false_eq_true, if_false, if_true, ne_eq, not_true_eq_false]
        rfl
  · rw [hd] at h; simp at h
theorem namesF_name {st : FSt} {a b : ByteArray} (h : namesF st [a, b] = 0) : nameR b = true := by
  rw [namesF_two] at h
  cases hd : st.down
  · rw [hd] at h
    cases ha : nameR a
    · rw [ha] at h; simp at h
    · cases hb : nameR b
      · rw [ha, hb] at h; simp at h
      · rfl
  · rw [hd] at h; simp at h
theorem renameF_no {st : FSt} {a b : ByteArray} (h : namesF st [a, b] = 0) {f : Int} {o : Option Nat} (hfo : findF st a = (f, o)) (hf : f ≠ 0) : renameF st a b = (st, f) := by
  rw [renameF_ok h, hfo]
  split
  · rename_i h; injection h with h _; exact absurd h hf
  · rename_i h; injection h with h _; rw [h]
theorem renameF_yes {st : FSt} {a b : ByteArray} (h : namesF st [a, b] = 0) {p : Nat} (hfo : findF st a = (0, some p)) : renameF st a b = goF st fun s => chgF s ⟨b, a, some p⟩ := by
  rw [renameF_ok h, hfo]
  rfl
set_option maxHeartbeats 600000 in
set_option maxRecDepth 100000 in
theorem fsRename_ok {F D : Nat → Prop} {sb : Nat} {st : FSt} (w : World) (h : FSr w F D sb st) (hlen : st.chg.length ≤ 1000000) (n m : ByteArray) :
    Calls Tryz.prog 23 #[.pointer (some ⟨sb, 0, none⟩), .string n, .string m] w fun e w' => e = .returned (.int .i64 (renameF st n m).2) ∧ ∃ F' D', FSr w' F' D' sb (renameF st n m).1 ∧ Turn F D F' D' w w' := by
  obtain ⟨w0, hw0⟩ : ∃ w0, w0 = ((w.alloc (.cells #[.pointer (some ⟨sb, 0, none⟩)] 25)).alloc (.cells #[.string n] 9)).alloc (.cells #[.string m] 9) := ⟨_, rfl⟩
  have hz0 : w0.heap.size = w.heap.size + 1 + 1 + 1 := by rw [hw0]; simp
  have hb0 : Below w.heap.size w w0 := by rw [hw0]; exact (((Below.refl _ _).alloc (Nat.le_refl _) _).alloc (by simp) _).alloc (by simp; omega) _
  have hx1 : w0.heap[w.heap.size]? = some (.cells #[.pointer (some ⟨sb, 0, none⟩)] 25 (0, 0)) := by rw [hw0]; exact (Below.heap_alloc _ _ _ (by simp; omega)).trans ((Below.heap_alloc _ _ _ (by simp)).trans (heap_alloc_new w _))
  have hx2 : w0.heap[w.heap.size + 1]? = some (.cells #[.string n] 9 (0, 0)) := by rw [hw0]; have := heap_alloc_new (w.alloc (.cells #[.pointer (some ⟨sb, 0, none⟩)] 25)) (.cells #[.string n] 9 (0, 0)); exact (Below.heap_alloc _ _ _ (by simp)).trans (by simpa using this)
  have hx3 : w0.heap[w.heap.size + 1 + 1]? = some (.cells #[.string m] 9 (0, 0)) := by rw [hw0]; have := heap_alloc_new ((w.alloc (.cells #[.pointer (some ⟨sb, 0, none⟩)] 25)).alloc (.cells #[.string n] 9)) (.cells #[.string m] 9 (0, 0)); simpa using this
  have hsb := h.sb_lt
  have q1 : w0.cell? ⟨w.heap.size, 0, none⟩ = some (.pointer (some ⟨sb, 0, none⟩)) := cell_of_heap hx1 0
  have q2 : w0.cell? ⟨w.heap.size + 1, 0, none⟩ = some (.string n) := cell_of_heap hx2 0
  have q3 : w0.cell? ⟨w.heap.size + 1 + 1, 0, none⟩ = some (.string m) := cell_of_heap hx3 0
  obtain ⟨wa, hwa⟩ : ∃ wa, wa = w0.alloc (.cells #[.string n, .string m] 9) := ⟨_, rfl⟩
  have hba : Below w0.heap.size w0 wa := by rw [hwa]; exact (Below.refl _ _).alloc (Nat.le_refl _) _
  have hxa : wa.heap[w0.heap.size]? = some (.cells #[.string n, .string m] 9 (0, 0)) := by rw [hwa]; exact heap_alloc_new _ _
  have hrow : Row (fun _ => False) wa (.slice (some ⟨w0.heap.size, 0, none⟩) 2 2) 2 1 ([n, m].map Value.string) :=
    ⟨rfl, _, 2, rfl, ⟨by omega, by omega, by unfold maxLen; omega⟩, (fun h => nomatch h), .inr ⟨w0.heap.size, 0, rfl, lt_of_heap hxa, id, fun j x hx => by rw [cell_of_heap hxa, Nat.zero_add]; simpa using hx⟩⟩
  have HN := hid (fsNamed_ok wa (h.below (Below.below hb0 hba)) _ [n, m] hrow)
  rw [hz0] at HN
  have HB0 := hid hb0
  have HBA := hid (Below.below hb0 hba)
  have HBA0 := hid hba
  have HH := hid h
  have HL := hid hlen
  have HW0 := hid hw0
  have HWA := hid hwa
  have HZ0 := hid hz0
  clear hb0 hba hx1 hx2 hx3 hxa hrow hw0 hwa h hlen hz0
  have hmf : ∀ (fn : Fn) (first cap : Array Value) (w : World), (Instr.makeFunc fn first cap).run Tryz.prog w = .ok (.func fn first cap) w := fun _ _ _ _ => rfl
  by_cases hnf : namesF st [n, m] = 0
  · rw [hnf] at HN
    have HF := hid (fun w1 (hb : Below wa.heap.size wa w1) => fsFind_ok w1 (HH.out.below (Below.below HBA.out hb)) n)
    cases hfo : findF st n with
    | mk f o =>
    rw [hfo] at HF
    unfold findC at HF
    by_cases h0 : f = 0
    · subst h0
      obtain ⟨p, rfl⟩ := findF_some hfo
      rw [renameF_yes hnf hfo]
      have HMEM := hid (HH.out.ok.seenI _ (mem_seen hfo)).1
      have HNM := hid (namesF_name hnf)
      simp only [Option.map_some] at HF
      clear hfo hnf
      have HST := hid (show ∀ w2, Below wa.heap.size wa w2 → Calls Tryz.prog 47 #[.pointer (some ⟨sb, 0, none⟩), .func (.func 63) #[] #[.pointer (some ⟨w.heap.size, 0, none⟩), .pointer (some ⟨w.heap.size + 1 + 1, 0, none⟩), .pointer (some ⟨w.heap.size + 1, 0, none⟩), .pointer (some ⟨w2.heap.size, 0, none⟩)]] (w2.alloc (.cells #[.pointer (some ⟨p, 0, none⟩)] 73)) fun e w' => e = .returned (.int .i64 (goF st fun s => chgF s ⟨m, n, some p⟩).2) ∧ ∃ F' D', FSr w' F' D' sb (goF st fun s => chgF s ⟨m, n, some p⟩).1 ∧ Turn F D F' D' w w' from fun w2 hb2 => by
        have hz0 := HZ0.out
        have hza := HBA0.out.size
        have hz2 := hb2.size
        have hbb : Below w2.heap.size w2 (w2.alloc (.cells #[.pointer (some ⟨p, 0, none⟩)] 73)) := (Below.refl _ _).alloc (Nat.le_refl _) _
        have hb0b : Below w0.heap.size w0 (w2.alloc (.cells #[.pointer (some ⟨p, 0, none⟩)] 73)) := Below.below (Below.below HBA0.out hb2) hbb
        have hx := heap_alloc_new w2 (.cells #[.pointer (some ⟨p, 0, none⟩)] 73)
        have hlx := lt_of_heap hx
        refine step_change HH.out (Below.below (Below.below HBA.out hb2) hbb) HL.out 63 _ (enters_of Tryz.func63 rfl rfl) ⟨m, n, some p⟩ HNM.out (fun q hq => by injection hq with hq; subst hq; exact HMEM.out) (fun w3 hf3 hch => ?_)
        have k1 := (hf3.cell (p := ⟨w.heap.size, 0, none⟩) (show w.heap.size < _ by omega) (fun e => absurd (show w.heap.size = sb from e) (by omega))).trans ((hb0b.cell (p := ⟨w.heap.size, 0, none⟩) (show w.heap.size < w0.heap.size by omega)).trans q1)
        have k2 := (hf3.cell (p := ⟨w.heap.size + 1, 0, none⟩) (show w.heap.size + 1 < _ by omega) (fun e => absurd (show w.heap.size + 1 = sb from e) (by omega))).trans ((hb0b.cell (p := ⟨w.heap.size + 1, 0, none⟩) (show w.heap.size + 1 < w0.heap.size by omega)).trans q2)
        have k3 := (hf3.cell (p := ⟨w.heap.size + 1 + 1, 0, none⟩) (show w.heap.size + 1 + 1 < _ by omega) (fun e => absurd (show w.heap.size + 1 + 1 = sb from e) (by omega))).trans ((hb0b.cell (p := ⟨w.heap.size + 1 + 1, 0, none⟩) (show w.heap.size + 1 + 1 < w0.heap.size by omega)).trans q3)
        have k4 := (hf3.cell (p := ⟨w2.heap.size, 0, none⟩) hlx (fun e => absurd (show w2.heap.size = sb from e) (by omega))).trans (cell_of_heap hx 0)
        simp at k4
        have HCH := hid (hch w3 (Below.refl _ _))
        clear hch q1 q2 q3 HF HN HNM HL HH HMEM HW0 HWA HZ0 HBA HBA0 HB0 hb0b hbb hf3 hb2 hx hlx hz0 hza hz2
        generalize chgF (tick st) ⟨m, n, some p⟩ = S at *
        go_enter Tryz.func63, Tryz.ntmps63
        go_wp2_with (go_at_call 49; refine HCH.out.mono ?_; rintro e w4 ⟨rfl, hq, hf⟩; have HQ := hid hq; have HFF := hid hf; clear hq hf)
        go_end0
        exact ⟨rfl, HQ.out, HFF.out⟩)
      generalize (goF st fun s => chgF s ⟨m, n, some p⟩) = R at *
      go_enter Tryz.func23, Tryz.ntmps23
      go_wp2_with (first | (go_at_call 62; rw [← HW0.out, ← HWA.out]; refine HN.out.mono ?_; rintro e w1 ⟨rfl, hb1⟩; have HB1 := hid hb1; have k1 := ((HBA0.out.trans (hb1.mono HBA0.out.size)).cell (p := ⟨w.heap.size, 0, none⟩) (show w.heap.size < w0.heap.size by have := HZ0.out; omega)).trans q1; have k2 := ((HBA0.out.trans (hb1.mono HBA0.out.size)).cell (p := ⟨w.heap.size + 1, 0, none⟩) (show w.heap.size + 1 < w0.heap.size by have := HZ0.out; omega)).trans q2; clear hb1) | (go_at_call 40; refine (HF.out _ HB1.out).mono ?_; rintro e w2 ⟨rfl, hb2⟩; have HB2 := hid hb2; have kk1 : (w2.alloc (.cells #[.pointer (some ⟨p, 0, none⟩)] 73)).cell? ⟨w.heap.size, 0, none⟩ = some (.pointer (some ⟨sb, 0, none⟩)) := ((Below.below HBA0.out (Below.below (Below.below HB1.out hb2) ((Below.refl _ _).alloc (Nat.le_refl _) _))).cell (p := ⟨w.heap.size, 0, none⟩) (show w.heap.size < w0.heap.size by have := HZ0.out; omega)).trans q1; clear hb2) | (go_at_call 47; refine (HST.out w2 (Below.below HB1.out HB2.out)).mono ?_; rintro e w5 ⟨rfl, hr⟩; have HR := hid hr; clear hr))
      go_ret
      exact ⟨rfl, HR.out⟩
    · have g1 : (f != 0) = true := by simpa using h0
      rw [renameF_no hnf hfo h0]
      clear hfo hnf
      generalize Option.map (fun p => (⟨p, 0, none⟩ : Addr)) o = po at HF
      go_enter Tryz.func23, Tryz.ntmps23
      go_wp2_with (first | (go_at_call 62; rw [← HW0.out, ← HWA.out]; refine HN.out.mono ?_; rintro e w1 ⟨rfl, hb1⟩; have HB1 := hid hb1; have k1 := ((HBA0.out.trans (hb1.mono HBA0.out.size)).cell (p := ⟨w.heap.size, 0, none⟩) (show w.heap.size < w0.heap.size by have := HZ0.out; omega)).trans q1; have k2 := ((HBA0.out.trans (hb1.mono HBA0.out.size)).cell (p := ⟨w.heap.size + 1, 0, none⟩) (show w.heap.size + 1 < w0.heap.size by have := HZ0.out; omega)).trans q2; clear hb1) | (go_at_call 40; refine (HF.out _ HB1.out).mono ?_; rintro e w2 ⟨rfl, hb2⟩; have HB2 := hid hb2; clear hb2))
      go_ret
      exact ⟨rfl, HH.out.same (Below.below (Below.below HBA.out (Below.below HB1.out HB2.out)) ((Below.refl _ _).alloc (Nat.le_refl _) _))⟩
  · rw [renameF_bad hnf]
    have g1 : (namesF st [n, m] != 0) = true := by simpa using hnf
    generalize namesF st [n, m] = f at *
    clear hnf
    go_enter Tryz.func23, Tryz.ntmps23
    go_wp2_with (go_at_call 62; rw [← HW0.out, ← HWA.out]; refine HN.out.mono ?_; rintro e w1 ⟨rfl, hb1⟩; have HB1 := hid hb1; clear hb1)
    go_ret
    exact ⟨rfl, HH.out.same (Below.below HBA.out HB1.out)⟩
end Go.Proofs.YtgehalfnpbjjcaaGreat
