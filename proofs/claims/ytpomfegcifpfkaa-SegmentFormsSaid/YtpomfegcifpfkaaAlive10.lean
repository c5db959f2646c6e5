/- law10's alive: what must come at any rate. -/
import Derived.Test.YtpomfegcifpfkaaSegPut0
import Derived.Test.YtpomfegcifpfkaaSegFind
namespace Go.Proofs.Ytpomfegcifpfkaa
open Go Go.RowKit Go.Sort
def nm1 : Nm := ⟨1 :: List.replicate 31 0, rfl⟩
def ent1 : Ent := ⟨nm1, 1, 2, 3⟩
theorem nm1_cells : (bcells nm1.1).toArray = #[.int .u8 1, .int .u8 0, .int .u8 0, .int .u8 0, .int .u8 0, .int .u8 0, .int .u8 0, .int .u8 0, .int .u8 0, .int .u8 0, .int .u8 0, .int .u8 0, .int .u8 0, .int .u8 0, .int .u8 0, .int .u8 0, .int .u8 0, .int .u8 0, .int .u8 0, .int .u8 0, .int .u8 0, .int .u8 0, .int .u8 0, .int .u8 0, .int .u8 0, .int .u8 0, .int .u8 0, .int .u8 0, .int .u8 0, .int .u8 0, .int .u8 0, .int .u8 0] := by kernel_rfl
theorem ent1_cells : (entC ent1).toArray = #[.int .u8 1, .int .u8 0, .int .u8 0, .int .u8 0, .int .u8 0, .int .u8 0, .int .u8 0, .int .u8 0, .int .u8 0, .int .u8 0, .int .u8 0, .int .u8 0, .int .u8 0, .int .u8 0, .int .u8 0, .int .u8 0, .int .u8 0, .int .u8 0, .int .u8 0, .int .u8 0, .int .u8 0, .int .u8 0, .int .u8 0, .int .u8 0, .int .u8 0, .int .u8 0, .int .u8 0, .int .u8 0, .int .u8 0, .int .u8 0, .int .u8 0, .int .u8 0, .int .i64 1, .int .i64 2, .int .i64 3] := by kernel_rfl
theorem find1 : findF [ent1] nm1 = some ent1 := by decide
theorem right1 : rightL [ent1] = true := by decide
theorem sealed7 : (sealed [3, 0, 0]).length = 7 := rfl
def Put7 (t : Nat) (w : World) (e : Ending) (w' : World) : Prop :=
  ∃ g c, e = .returned (.tuple #[.slice (some ⟨g, 0, none⟩) 7 c, .int .i64 0]) ∧ 7 ≤ c ∧ c ≤ maxLen ∧ g < w'.heap.size ∧ w'.cell? ⟨g, 0, none⟩ = some (.int .u8 3) ∧ Tab w' t ∧ Fr (· = t) w w'
theorem put7 (t : Nat) (w : World) (hT : Tab w t) : Calls Try.prog 6 #[.pointer (some ⟨t, 0, none⟩), .slice none 0 0] w (Put7 t w) := by
  refine (segPut_empty t w hT).mono ?_
  rintro e w' ⟨a, c, rfl, ho, hT', hF⟩
  rw [sealed7] at ho ⊢
  have ho' := ho
  obtain ⟨h0, ⟨hn, _⟩ | ⟨g, cap, cur, hv, hb, hg, hf, hz, ht⟩⟩ := ho
  · rw [sealed7] at hn; omega
  · injection hv with e1 e2 e3
    subst e1 e3
    rw [sealed7] at hf
    refine ⟨g, c, rfl, hf.1, hf.2.2, lt_of_heap hg, ?_, hT', hF⟩
    have := (Own.cellAt ho' (i := 0) (by omega)).2
    rw [this]; rfl
theorem es1 {w : World} {g : Nat} (hg : w.heap[g]? = some (.cells (entC ent1).toArray 50 (0, 0))) : Es (fun _ => False) w (.slice (some ⟨g, 0, none⟩) 1 1) [ent1] := by
  refine ⟨by simp [entC_length], _, 1, rfl, ⟨Nat.le_refl _, by simp, by unfold maxLen; omega⟩, (fun h => nomatch h), .inr ⟨g, 0, rfl, lt_of_heap hg, id, fun j x hx => ?_⟩⟩
  rw [Nat.zero_add, cell_of_heap hg]
  simpa using hx
set_option maxHeartbeats 4000000 in
set_option maxRecDepth 100000 in
theorem alive_ok (w : World) : Calls Try.prog 4 #[] w fun e w' => e = .returned (.bool true) ∧ Below w.heap.size w w' := by
  have hN := new_ok w
  have hF : ∀ W : World, Calls Try.prog 18 #[.slice (some ⟨W.heap.size, 0, none⟩) 1 1, .agg #[.int .u8 1, .int .u8 0, .int .u8 0, .int .u8 0, .int .u8 0, .int .u8 0, .int .u8 0, .int .u8 0, .int .u8 0, .int .u8 0, .int .u8 0, .int .u8 0, .int .u8 0, .int .u8 0, .int .u8 0, .int .u8 0, .int .u8 0, .int .u8 0, .int .u8 0, .int .u8 0, .int .u8 0, .int .u8 0, .int .u8 0, .int .u8 0, .int .u8 0, .int .u8 0, .int .u8 0, .int .u8 0, .int .u8 0, .int .u8 0, .int .u8 0, .int .u8 0]] (W.alloc (.cells #[.int .u8 1, .int .u8 0, .int .u8 0, .int .u8 0, .int .u8 0, .int .u8 0, .int .u8 0, .int .u8 0, .int .u8 0, .int .u8 0, .int .u8 0, .int .u8 0, .int .u8 0, .int .u8 0, .int .u8 0, .int .u8 0, .int .u8 0, .int .u8 0, .int .u8 0, .int .u8 0, .int .u8 0, .int .u8 0, .int .u8 0, .int .u8 0, .int .u8 0, .int .u8 0, .int .u8 0, .int .u8 0, .int .u8 0, .int .u8 0, .int .u8 0, .int .u8 0, .int .i64 1, .int .i64 2, .int .i64 3] 50 (0, 0))) fun r w' => r = .returned (.tuple #[.agg #[.int .i64 1, .int .i64 2, .int .i64 3], .bool true]) ∧ Below (W.heap.size + 1) (W.alloc (.cells #[.int .u8 1, .int .u8 0, .int .u8 0, .int .u8 0, .int .u8 0, .int .u8 0, .int .u8 0, .int .u8 0, .int .u8 0, .int .u8 0, .int .u8 0, .int .u8 0, .int .u8 0, .int .u8 0, .int .u8 0, .int .u8 0, .int .u8 0, .int .u8 0, .int .u8 0, .int .u8 0, .int .u8 0, .int .u8 0, .int .u8 0, .int .u8 0, .int .u8 0, .int .u8 0, .int .u8 0, .int .u8 0, .int .u8 0, .int .u8 0, .int .u8 0, .int .u8 0, .int .i64 1, .int .i64 2, .int .i64 3] 50 (0, 0))) w' := fun W => by
    rw [← nm1_cells, ← ent1_cells]
    have := segFind_ok sg (S := fun _ => False) (W.alloc (.cells (entC ent1).toArray 50 (0, 0))) _ [ent1] nm1 (es1 (heap_alloc_new W _))
    rw [find1] at this
    refine this.mono ?_
    rintro r w' ⟨rfl, hb⟩
    exact ⟨rfl, by simpa using hb⟩
  have hR : ∀ (W W' : World) (g : Nat), W.heap[g]? = some (.cells #[.int .u8 1, .int .u8 0, .int .u8 0, .int .u8 0, .int .u8 0, .int .u8 0, .int .u8 0, .int .u8 0, .int .u8 0, .int .u8 0, .int .u8 0, .int .u8 0, .int .u8 0, .int .u8 0, .int .u8 0, .int .u8 0, .int .u8 0, .int .u8 0, .int .u8 0, .int .u8 0, .int .u8 0, .int .u8 0, .int .u8 0, .int .u8 0, .int .u8 0, .int .u8 0, .int .u8 0, .int .u8 0, .int .u8 0, .int .u8 0, .int .u8 0, .int .u8 0, .int .i64 1, .int .i64 2, .int .i64 3] 50 (0, 0)) → Below W.heap.size W W' → Calls Try.prog 11 #[.slice (some ⟨g, 0, none⟩) 1 1] W' fun r w' => r = .returned (.bool true) ∧ Below W'.heap.size W' w' := fun W W' g hg hb => by
    rw [← ent1_cells] at hg
    have := segRight_ok sg (S := fun _ => False) W' _ [ent1] ((es1 hg).fr (Fr.of_below hb : Fr (fun _ => False) W W') (fun _ _ h => h.elim))
    rw [right1] at this
    exact this.mono fun _ _ ⟨h1, h2⟩ => ⟨h1, h2.below⟩
  have HN := hid hN
  have HF := hid hF
  have HR := hid hR
  clear hN hF hR
  go_enter Try.func4, Try.ntmps4
  go_wp2_with (first | (go_at_call 5; refine HN.out.mono ?_; rintro e w1 ⟨t, rfl, ht1, hT1, hb1⟩; have B1 := hid (And.intro ht1 (And.intro hT1 hb1)); clear ht1 hT1 hb1) | (go_at_call 6; refine (put7 _ _ B1.out.2.1).mono ?_; rintro e w2 ⟨g, c, rfl, hc7, hcm, hgl, hg0, hT2, hF2⟩; have B2 := hid hF2; unfold maxLen at hcm; clear hT2 hF2) | (go_at_call 18; refine (HF.out _).mono ?_; rintro e w3 ⟨rfl, hb3⟩; have hs3 : w2.heap.size + 1 ≤ w3.heap.size := (by have := hb3.size; simpa using this); have hgl3 : g < w3.heap.size := (by omega); have hg3 : w3.cell? ⟨g, 0, none⟩ = some (.int .u8 3) := ((hb3.cell (p := ⟨g, 0, none⟩) (by simp; omega)).trans (by rw [← hg0]; exact World.cell?_of_block (heap_alloc_old _ _ hgl))); have B3 := hid hb3; clear hb3) | (go_at_call 11; refine (HR.out (w2.alloc _) _ w2.heap.size (heap_alloc_new w2 _) ((B3.out.mono (by simp)).alloc (by simp; omega) _)).mono ?_; rintro e w4 ⟨rfl, hb4⟩; have B4 := hid hb4; clear hb4))
  go_ret
  have z1 := B1.out.2.2.size
  have z2 := B2.out.size
  have z0 := B1.out.1
  refine ⟨rfl, ?_⟩
  have c1 : Below w.heap.size w w2 := Below.fr B1.out.2.2 B2.out (fun i hi e => by omega)
  have c2 := (c1.alloc (by omega) (.cells #[.int .u8 1, .int .u8 0, .int .u8 0, .int .u8 0, .int .u8 0, .int .u8 0, .int .u8 0, .int .u8 0, .int .u8 0, .int .u8 0, .int .u8 0, .int .u8 0, .int .u8 0, .int .u8 0, .int .u8 0, .int .u8 0, .int .u8 0, .int .u8 0, .int .u8 0, .int .u8 0, .int .u8 0, .int .u8 0, .int .u8 0, .int .u8 0, .int .u8 0, .int .u8 0, .int .u8 0, .int .u8 0, .int .u8 0, .int .u8 0, .int .u8 0, .int .u8 0, .int .i64 1, .int .i64 2, .int .i64 3] 50 (0, 0))).trans (B3.out.mono (by omega))
  exact (c2.alloc (by omega) _).trans (B4.out.mono (by simp; omega))
end Go.Proofs.Ytpomfegcifpfkaa
