/- simfs: what a nil one says. -/
import Derived.Test.YtgehalfnpbjjcaaGreatSimT
import Derived.Test.YtgehalfnpbjjcaaGreatSimH
import Derived.Test.YtgehalfnpbjjcaaGreatSimK
import Derived.Test.YtgehalfnpbjjcaaGreatSimF
namespace Go.Proofs.YtgehalfnpbjjcaaGreat
open Go Go.RowKit Go.Sort
set_option maxRecDepth 100000 in
theorem nilIs (w : World) : Calls Tryz.prog 53 #[.pointer none] w fun e w' => e = .returned (.int .i64 18) ∧ w' = w := by
  go_enter Tryz.func53, Tryz.ntmps53
  go_wp2
  go_ret
  exact ⟨rfl, rfl⟩
set_option maxRecDepth 100000 in
theorem nilNamed (w : World) (v : Value) : Calls Tryz.prog 62 #[.pointer none, v] w fun e w' => e = .returned (.int .i64 18) ∧ Below w.heap.size w w' := by
  have HI := hid nilIs
  go_enter Tryz.func62, Tryz.ntmps62
  go_wp2_with (go_at_call 53; refine (HI.out _).mono ?_; rintro e w1 ⟨rfl, rfl⟩)
  go_ret
  exact ⟨rfl, Below.refl _ _⟩
set_option maxRecDepth 100000 in
theorem nilFind (w : World) (s : ByteArray) : Calls Tryz.prog 40 #[.pointer none, .string s] w fun e w' => e = .returned (.tuple #[.pointer none, .int .i64 18]) ∧ Below w.heap.size w w' := by
  have HN := hid nilNamed
  have hb0 : Below w.heap.size w (w.alloc (.cells #[.string s] 9 (0, 0))) := (Below.refl _ _).alloc (Nat.le_refl _) _
  go_enter Tryz.func40, Tryz.ntmps40
  go_wp2_with (go_at_call 62; refine (HN.out _ _).mono ?_; rintro e w1 ⟨rfl, hb1⟩)
  go_ret2
  exact ⟨rfl, Below.below hb0 hb1⟩
set_option maxRecDepth 100000 in
theorem nilCreate (w : World) (s : ByteArray) : Calls Tryz.prog 13 #[.pointer none, .string s] w fun e w' => e = .returned (.int .i64 18) ∧ Below w.heap.size w w' := by
  have HI := hid nilIs
  have HN := hid nilNamed
  have HF := hid nilFind
  go_enter Tryz.func13, Tryz.ntmps13
  go_wp2_with (first | (go_at_call 40; refine (HF.out _ _).mono ?_; rintro e w1 ⟨rfl, hb1⟩; have B1 := hid hb1; clear hb1) | (go_at_call 62; refine (HN.out _ _).mono ?_; rintro e w1 ⟨rfl, hb1⟩; have B1 := hid hb1; clear hb1) | (go_at_call 53; refine (HI.out _).mono ?_; rintro e w1 ⟨rfl, rfl⟩))
  go_ret
  refine ⟨rfl, ?_⟩
  first | exact Below.refl _ _ | exact B1.out | exact Below.below ((Below.refl _ _).alloc (Nat.le_refl _) _) B1.out | exact Below.below (((Below.refl _ _).alloc (Nat.le_refl _) _).alloc (by simp) _) B1.out | exact Below.below ((((Below.refl _ _).alloc (Nat.le_refl _) _).alloc (by simp) _).alloc (by simp <;> omega) _) B1.out | exact Below.below (((((Below.refl _ _).alloc (Nat.le_refl _) _).alloc (by simp) _).alloc (by simp <;> omega) _).alloc (by simp <;> omega) _) B1.out | exact B1.out.alloc B1.out.size _ | exact (Below.refl _ _).alloc (Nat.le_refl _) _ | exact ((Below.refl _ _).alloc (Nat.le_refl _) _).alloc (by simp) _ | exact (Below.below ((Below.refl _ _).alloc (Nat.le_refl _) _) B1.out).alloc (by have := B1.out.size; simp at this; omega) _
set_option maxRecDepth 100000 in
theorem nilAppend (w : World) (s : ByteArray) : Calls Tryz.prog 14 #[.pointer none, .string s, .slice none 0 0] w fun e w' => e = .returned (.int .i64 18) ∧ Below w.heap.size w w' := by
  have HI := hid nilIs
  have HN := hid nilNamed
  have HF := hid nilFind
  go_enter Tryz.func14, Tryz.ntmps14
  go_wp2_with (first | (go_at_call 40; refine (HF.out _ _).mono ?_; rintro e w1 ⟨rfl, hb1⟩; have B1 := hid hb1; clear hb1) | (go_at_call 62; refine (HN.out _ _).mono ?_; rintro e w1 ⟨rfl, hb1⟩; have B1 := hid hb1; clear hb1) | (go_at_call 53; refine (HI.out _).mono ?_; rintro e w1 ⟨rfl, rfl⟩))
  go_ret
  refine ⟨rfl, ?_⟩
  first | exact Below.refl _ _ | exact B1.out | exact Below.below ((Below.refl _ _).alloc (Nat.le_refl _) _) B1.out | exact Below.below (((Below.refl _ _).alloc (Nat.le_refl _) _).alloc (by simp) _) B1.out | exact Below.below ((((Below.refl _ _).alloc (Nat.le_refl _) _).alloc (by simp) _).alloc (by simp <;> omega) _) B1.out | exact Below.below (((((Below.refl _ _).alloc (Nat.le_refl _) _).alloc (by simp) _).alloc (by simp <;> omega) _).alloc (by simp <;> omega) _) B1.out | exact B1.out.alloc B1.out.size _ | exact (Below.refl _ _).alloc (Nat.le_refl _) _ | exact ((Below.refl _ _).alloc (Nat.le_refl _) _).alloc (by simp) _ | exact (Below.below ((Below.refl _ _).alloc (Nat.le_refl _) _) B1.out).alloc (by have := B1.out.size; simp at this; omega) _
set_option maxRecDepth 100000 in
theorem nilRead (w : World) (s : ByteArray) : Calls Tryz.prog 11 #[.pointer none, .string s] w fun e w' => e = .returned (.tuple #[.slice none 0 0, .int .i64 18]) ∧ Below w.heap.size w w' := by
  have HI := hid nilIs
  have HN := hid nilNamed
  have HF := hid nilFind
  go_enter Tryz.func11, Tryz.ntmps11
  go_wp2_with (first | (go_at_call 40; refine (HF.out _ _).mono ?_; rintro e w1 ⟨rfl, hb1⟩; have B1 := hid hb1; clear hb1) | (go_at_call 62; refine (HN.out _ _).mono ?_; rintro e w1 ⟨rfl, hb1⟩; have B1 := hid hb1; clear hb1) | (go_at_call 53; refine (HI.out _).mono ?_; rintro e w1 ⟨rfl, rfl⟩))
  go_ret2
  refine ⟨rfl, ?_⟩
  first | exact Below.refl _ _ | exact B1.out | exact Below.below ((Below.refl _ _).alloc (Nat.le_refl _) _) B1.out | exact Below.below (((Below.refl _ _).alloc (Nat.le_refl _) _).alloc (by simp) _) B1.out | exact Below.below ((((Below.refl _ _).alloc (Nat.le_refl _) _).alloc (by simp) _).alloc (by simp <;> omega) _) B1.out | exact Below.below (((((Below.refl _ _).alloc (Nat.le_refl _) _).alloc (by simp) _).alloc (by simp <;> omega) _).alloc (by simp <;> omega) _) B1.out | exact B1.out.alloc B1.out.size _ | exact (Below.refl _ _).alloc (Nat.le_refl _) _ | exact ((Below.refl _ _).alloc (Nat.le_refl _) _).alloc (by simp) _ | exact (Below.below ((Below.refl _ _).alloc (Nat.le_refl _) _) B1.out).alloc (by have := B1.out.size; simp at this; omega) _
set_option maxRecDepth 100000 in
theorem nilSize (w : World) (s : ByteArray) : Calls Tryz.prog 21 #[.pointer none, .string s] w fun e w' => e = .returned (.tuple #[.int .i64 0, .int .i64 18]) ∧ Below w.heap.size w w' := by
  have HI := hid nilIs
  have HN := hid nilNamed
  have HF := hid nilFind
  go_enter Tryz.func21, Tryz.ntmps21
  go_wp2_with (first | (go_at_call 40; refine (HF.out _ _).mono ?_; rintro e w1 ⟨rfl, hb1⟩; have B1 := hid hb1; clear hb1) | (go_at_call 62; refine (HN.out _ _).mono ?_; rintro e w1 ⟨rfl, hb1⟩; have B1 := hid hb1; clear hb1) | (go_at_call 53; refine (HI.out _).mono ?_; rintro e w1 ⟨rfl, rfl⟩))
  go_ret2
  refine ⟨rfl, ?_⟩
  first | exact Below.refl _ _ | exact B1.out | exact Below.below ((Below.refl _ _).alloc (Nat.le_refl _) _) B1.out | exact Below.below (((Below.refl _ _).alloc (Nat.le_refl _) _).alloc (by simp) _) B1.out | exact Below.below ((((Below.refl _ _).alloc (Nat.le_refl _) _).alloc (by simp) _).alloc (by simp <;> omega) _) B1.out | exact Below.below (((((Below.refl _ _).alloc (Nat.le_refl _) _).alloc (by simp) _).alloc (by simp <;> omega) _).alloc (by simp <;> omega) _) B1.out | exact B1.out.alloc B1.out.size _ | exact (Below.refl _ _).alloc (Nat.le_refl _) _ | exact ((Below.refl _ _).alloc (Nat.le_refl _) _).alloc (by simp) _ | exact (Below.below ((Below.refl _ _).alloc (Nat.le_refl _) _) B1.out).alloc (by have := B1.out.size; simp at this; omega) _
set_option maxRecDepth 100000 in
theorem nilRename (w : World) (s : ByteArray) (t : ByteArray) : Calls Tryz.prog 23 #[.pointer none, .string s, .string t] w fun e w' => e = .returned (.int .i64 18) ∧ Below w.heap.size w w' := by
  have HI := hid nilIs
  have HN := hid nilNamed
  have HF := hid nilFind
  go_enter Tryz.func23, Tryz.ntmps23
  go_wp2_with (first | (go_at_call 40; refine (HF.out _ _).mono ?_; rintro e w1 ⟨rfl, hb1⟩; have B1 := hid hb1; clear hb1) | (go_at_call 62; refine (HN.out _ _).mono ?_; rintro e w1 ⟨rfl, hb1⟩; have B1 := hid hb1; clear hb1) | (go_at_call 53; refine (HI.out _).mono ?_; rintro e w1 ⟨rfl, rfl⟩))
  go_ret
  refine ⟨rfl, ?_⟩
  first | exact Below.refl _ _ | exact B1.out | exact Below.below ((Below.refl _ _).alloc (Nat.le_refl _) _) B1.out | exact Below.below (((Below.refl _ _).alloc (Nat.le_refl _) _).alloc (by simp) _) B1.out | exact Below.below ((((Below.refl _ _).alloc (Nat.le_refl _) _).alloc (by simp) _).alloc (by simp <;> omega) _) B1.out | exact Below.below (((((Below.refl _ _).alloc (Nat.le_refl _) _).alloc (by simp) _).alloc (by simp <;> omega) _).alloc (by simp <;> omega) _) B1.out | exact B1.out.alloc B1.out.size _ | exact (Below.refl _ _).alloc (Nat.le_refl _) _ | exact ((Below.refl _ _).alloc (Nat.le_refl _) _).alloc (by simp) _ | exact (Below.below ((Below.refl _ _).alloc (Nat.le_refl _) _) B1.out).alloc (by have := B1.out.size; simp at this; omega) _
set_option maxRecDepth 100000 in
theorem nilRemove (w : World) (s : ByteArray) : Calls Tryz.prog 25 #[.pointer none, .string s] w fun e w' => e = .returned (.int .i64 18) ∧ Below w.heap.size w w' := by
  have HI := hid nilIs
  have HN := hid nilNamed
  have HF := hid nilFind
  go_enter Tryz.func25, Tryz.ntmps25
  go_wp2_with (first | (go_at_call 40; refine (HF.out _ _).mono ?_; rintro e w1 ⟨rfl, hb1⟩; have B1 := hid hb1; clear hb1) | (go_at_call 62; refine (HN.out _ _).mono ?_; rintro e w1 ⟨rfl, hb1⟩; have B1 := hid hb1; clear hb1) | (go_at_call 53; refine (HI.out _).mono ?_; rintro e w1 ⟨rfl, rfl⟩))
  go_ret
  refine ⟨rfl, ?_⟩
  first | exact Below.refl _ _ | exact B1.out | exact Below.below ((Below.refl _ _).alloc (Nat.le_refl _) _) B1.out | exact Below.below (((Below.refl _ _).alloc (Nat.le_refl _) _).alloc (by simp) _) B1.out | exact Below.below ((((Below.refl _ _).alloc (Nat.le_refl _) _).alloc (by simp) _).alloc (by simp <;> omega) _) B1.out | exact Below.below (((((Below.refl _ _).alloc (Nat.le_refl _) _).alloc (by simp) _).alloc (by simp <;> omega) _).alloc (by simp <;> omega) _) B1.out | exact B1.out.alloc B1.out.size _ | exact (Below.refl _ _).alloc (Nat.le_refl _) _ | exact ((Below.refl _ _).alloc (Nat.le_refl _) _).alloc (by simp) _ | exact (Below.below ((Below.refl _ _).alloc (Nat.le_refl _) _) B1.out).alloc (by have := B1.out.size; simp at this; omega) _
set_option maxRecDepth 100000 in
theorem nilFsync (w : World) (s : ByteArray) : Calls Tryz.prog 15 #[.pointer none, .string s] w fun e w' => e = .returned (.int .i64 18) ∧ Below w.heap.size w w' := by
  have HI := hid nilIs
  have HN := hid nilNamed
  have HF := hid nilFind
  go_enter Tryz.func15, Tryz.ntmps15
  go_wp2_with (first | (go_at_call 40; refine (HF.out _ _).mono ?_; rintro e w1 ⟨rfl, hb1⟩; have B1 := hid hb1; clear hb1) | (go_at_call 62; refine (HN.out _ _).mono ?_; rintro e w1 ⟨rfl, hb1⟩; have B1 := hid hb1; clear hb1) | (go_at_call 53; refine (HI.out _).mono ?_; rintro e w1 ⟨rfl, rfl⟩))
  go_ret
  refine ⟨rfl, ?_⟩
  first | exact Below.refl _ _ | exact B1.out | exact Below.below ((Below.refl _ _).alloc (Nat.le_refl _) _) B1.out | exact Below.below (((Below.refl _ _).alloc (Nat.le_refl _) _).alloc (by simp) _) B1.out | exact Below.below ((((Below.refl _ _).alloc (Nat.le_refl _) _).alloc (by simp) _).alloc (by simp <;> omega) _) B1.out | exact Below.below (((((Below.refl _ _).alloc (Nat.le_refl _) _).alloc (by simp) _).alloc (by simp <;> omega) _).alloc (by simp <;> omega) _) B1.out | exact B1.out.alloc B1.out.size _ | exact (Below.refl _ _).alloc (Nat.le_refl _) _ | exact ((Below.refl _ _).alloc (Nat.le_refl _) _).alloc (by simp) _ | exact (Below.below ((Below.refl _ _).alloc (Nat.le_refl _) _) B1.out).alloc (by have := B1.out.size; simp at this; omega) _
set_option maxRecDepth 100000 in
theorem nilSync (w : World) : Calls Tryz.prog 16 #[.pointer none] w fun e w' => e = .returned (.int .i64 18) ∧ Below w.heap.size w w' := by
  have HI := hid nilIs
  have HN := hid nilNamed
  have HF := hid nilFind
  go_enter Tryz.func16, Tryz.ntmps16
  go_wp2_with (first | (go_at_call 40; refine (HF.out _ _).mono ?_; rintro e w1 ⟨rfl, hb1⟩; have B1 := hid hb1; clear hb1) | (go_at_call 62; refine (HN.out _ _).mono ?_; rintro e w1 ⟨rfl, hb1⟩; have B1 := hid hb1; clear hb1) | (go_at_call 53; refine (HI.out _).mono ?_; rintro e w1 ⟨rfl, rfl⟩))
  go_ret
  refine ⟨rfl, ?_⟩
  first | exact Below.refl _ _ | exact B1.out | exact Below.below ((Below.refl _ _).alloc (Nat.le_refl _) _) B1.out | exact Below.below (((Below.refl _ _).alloc (Nat.le_refl _) _).alloc (by simp) _) B1.out | exact Below.below ((((Below.refl _ _).alloc (Nat.le_refl _) _).alloc (by simp) _).alloc (by simp <;> omega) _) B1.out | exact Below.below (((((Below.refl _ _).alloc (Nat.le_refl _) _).alloc (by simp) _).alloc (by simp <;> omega) _).alloc (by simp <;> omega) _) B1.out | exact B1.out.alloc B1.out.size _ | exact (Below.refl _ _).alloc (Nat.le_refl _) _ | exact ((Below.refl _ _).alloc (Nat.le_refl _) _).alloc (by simp) _ | exact (Below.below ((Below.refl _ _).alloc (Nat.le_refl _) _) B1.out).alloc (by have := B1.out.size; simp at this; omega) _
set_option maxRecDepth 100000 in
theorem nilArm (w : World) (n : Int) : Calls Tryz.prog 29 #[.pointer none, .int .i64 n] w fun e w' => e = .returned (.int .i64 18) ∧ Below w.heap.size w w' := by
  have HI := hid nilIs
  have HN := hid nilNamed
  have HF := hid nilFind
  go_enter Tryz.func29, Tryz.ntmps29
  go_wp2_with (first | (go_at_call 40; refine (HF.out _ _).mono ?_; rintro e w1 ⟨rfl, hb1⟩; have B1 := hid hb1; clear hb1) | (go_at_call 62; refine (HN.out _ _).mono ?_; rintro e w1 ⟨rfl, hb1⟩; have B1 := hid hb1; clear hb1) | (go_at_call 53; refine (HI.out _).mono ?_; rintro e w1 ⟨rfl, rfl⟩))
  go_ret
  refine ⟨rfl, ?_⟩
  first | exact Below.refl _ _ | exact B1.out | exact Below.below ((Below.refl _ _).alloc (Nat.le_refl _) _) B1.out | exact Below.below (((Below.refl _ _).alloc (Nat.le_refl _) _).alloc (by simp) _) B1.out | exact Below.below ((((Below.refl _ _).alloc (Nat.le_refl _) _).alloc (by simp) _).alloc (by simp <;> omega) _) B1.out | exact Below.below (((((Below.refl _ _).alloc (Nat.le_refl _) _).alloc (by simp) _).alloc (by simp <;> omega) _).alloc (by simp <;> omega) _) B1.out | exact B1.out.alloc B1.out.size _ | exact (Below.refl _ _).alloc (Nat.le_refl _) _ | exact ((Below.refl _ _).alloc (Nat.le_refl _) _).alloc (by simp) _ | exact (Below.below ((Below.refl _ _).alloc (Nat.le_refl _) _) B1.out).alloc (by have := B1.out.size; simp at this; omega) _
set_option maxRecDepth 100000 in
theorem nilDown (w : World) : Calls Tryz.prog 46 #[.pointer none] w fun e w' => e = .returned (.bool false) ∧ Below w.heap.size w w' := by
  have HI := hid nilIs
  have HN := hid nilNamed
  have HF := hid nilFind
  go_enter Tryz.func46, Tryz.ntmps46
  go_wp2_with (first | (go_at_call 40; refine (HF.out _ _).mono ?_; rintro e w1 ⟨rfl, hb1⟩; have B1 := hid hb1; clear hb1) | (go_at_call 62; refine (HN.out _ _).mono ?_; rintro e w1 ⟨rfl, hb1⟩; have B1 := hid hb1; clear hb1) | (go_at_call 53; refine (HI.out _).mono ?_; rintro e w1 ⟨rfl, rfl⟩))
  go_ret
  refine ⟨rfl, ?_⟩
  first | exact Below.refl _ _ | exact B1.out | exact Below.below ((Below.refl _ _).alloc (Nat.le_refl _) _) B1.out | exact Below.below (((Below.refl _ _).alloc (Nat.le_refl _) _).alloc (by simp) _) B1.out | exact Below.below ((((Below.refl _ _).alloc (Nat.le_refl _) _).alloc (by simp) _).alloc (by simp <;> omega) _) B1.out | exact Below.below (((((Below.refl _ _).alloc (Nat.le_refl _) _).alloc (by simp) _).alloc (by simp <;> omega) _).alloc (by simp <;> omega) _) B1.out | exact B1.out.alloc B1.out.size _ | exact (Below.refl _ _).alloc (Nat.le_refl _) _ | exact ((Below.refl _ _).alloc (Nat.le_refl _) _).alloc (by simp) _ | exact (Below.below ((Below.refl _ _).alloc (Nat.le_refl _) _) B1.out).alloc (by have := B1.out.size; simp at this; omega) _
set_option maxRecDepth 100000 in
theorem nilUp (w : World) (n : Int) (v : Value) : Calls Tryz.prog 17 #[.pointer none, .int .i64 n, v] w fun e w' => e = .returned (.int .i64 18) ∧ Below w.heap.size w w' := by
  have HI := hid nilIs
  have HN := hid nilNamed
  have HF := hid nilFind
  go_enter Tryz.func17, Tryz.ntmps17
  go_wp2_with (first | (go_at_call 40; refine (HF.out _ _).mono ?_; rintro e w1 ⟨rfl, hb1⟩; have B1 := hid hb1; clear hb1) | (go_at_call 62; refine (HN.out _ _).mono ?_; rintro e w1 ⟨rfl, hb1⟩; have B1 := hid hb1; clear hb1) | (go_at_call 53; refine (HI.out _).mono ?_; rintro e w1 ⟨rfl, rfl⟩))
  go_ret
  refine ⟨rfl, ?_⟩
  first | exact Below.refl _ _ | exact B1.out | exact Below.below ((Below.refl _ _).alloc (Nat.le_refl _) _) B1.out | exact Below.below (((Below.refl _ _).alloc (Nat.le_refl _) _).alloc (by simp) _) B1.out | exact Below.below ((((Below.refl _ _).alloc (Nat.le_refl _) _).alloc (by simp) _).alloc (by simp <;> omega) _) B1.out | exact Below.below (((((Below.refl _ _).alloc (Nat.le_refl _) _).alloc (by simp) _).alloc (by simp <;> omega) _).alloc (by simp <;> omega) _) B1.out | exact B1.out.alloc B1.out.size _ | exact (Below.refl _ _).alloc (Nat.le_refl _) _ | exact ((Below.refl _ _).alloc (Nat.le_refl _) _).alloc (by simp) _ | exact (Below.below ((Below.refl _ _).alloc (Nat.le_refl _) _) B1.out).alloc (by have := B1.out.size; simp at this; omega) _
set_option maxRecDepth 100000 in
theorem nilFlip (w : World) (s : ByteArray) (i j : Value) : Calls Tryz.prog 32 #[.pointer none, .string s, i, j] w fun e w' => e = .returned (.int .i64 18) ∧ Below w.heap.size w w' := by
  have HI := hid nilIs
  have HN := hid nilNamed
  have HF := hid nilFind
  go_enter Tryz.func32, Tryz.ntmps32
  go_wp2_with (first | (go_at_call 40; refine (HF.out _ _).mono ?_; rintro e w1 ⟨rfl, hb1⟩; have B1 := hid hb1; clear hb1) | (go_at_call 62; refine (HN.out _ _).mono ?_; rintro e w1 ⟨rfl, hb1⟩; have B1 := hid hb1; clear hb1) | (go_at_call 53; refine (HI.out _).mono ?_; rintro e w1 ⟨rfl, rfl⟩))
  go_ret
  refine ⟨rfl, ?_⟩
  first | exact Below.refl _ _ | exact B1.out | exact Below.below ((Below.refl _ _).alloc (Nat.le_refl _) _) B1.out | exact Below.below (((Below.refl _ _).alloc (Nat.le_refl _) _).alloc (by simp) _) B1.out | exact Below.below ((((Below.refl _ _).alloc (Nat.le_refl _) _).alloc (by simp) _).alloc (by simp <;> omega) _) B1.out | exact Below.below (((((Below.refl _ _).alloc (Nat.le_refl _) _).alloc (by simp) _).alloc (by simp <;> omega) _).alloc (by simp <;> omega) _) B1.out | exact B1.out.alloc B1.out.size _ | exact (Below.refl _ _).alloc (Nat.le_refl _) _ | exact ((Below.refl _ _).alloc (Nat.le_refl _) _).alloc (by simp) _ | exact (Below.below ((Below.refl _ _).alloc (Nat.le_refl _) _) B1.out).alloc (by have := B1.out.size; simp at this; omega) _
set_option maxRecDepth 100000 in
theorem nilUsed (w : World) : Calls Tryz.prog 44 #[.pointer none] w fun e w' => e = .returned (.int .i64 0) ∧ Below w.heap.size w w' := by
  have HI := hid nilIs
  have HN := hid nilNamed
  have HF := hid nilFind
  go_enter Tryz.func44, Tryz.ntmps44
  go_wp2_with (first | (go_at_call 40; refine (HF.out _ _).mono ?_; rintro e w1 ⟨rfl, hb1⟩; have B1 := hid hb1; clear hb1) | (go_at_call 62; refine (HN.out _ _).mono ?_; rintro e w1 ⟨rfl, hb1⟩; have B1 := hid hb1; clear hb1) | (go_at_call 53; refine (HI.out _).mono ?_; rintro e w1 ⟨rfl, rfl⟩))
  go_ret
  refine ⟨rfl, ?_⟩
  first | exact Below.refl _ _ | exact B1.out | exact Below.below ((Below.refl _ _).alloc (Nat.le_refl _) _) B1.out | exact Below.below (((Below.refl _ _).alloc (Nat.le_refl _) _).alloc (by simp) _) B1.out | exact Below.below ((((Below.refl _ _).alloc (Nat.le_refl _) _).alloc (by simp) _).alloc (by simp <;> omega) _) B1.out | exact Below.below (((((Below.refl _ _).alloc (Nat.le_refl _) _).alloc (by simp) _).alloc (by simp <;> omega) _).alloc (by simp <;> omega) _) B1.out | exact B1.out.alloc B1.out.size _ | exact (Below.refl _ _).alloc (Nat.le_refl _) _ | exact ((Below.refl _ _).alloc (Nat.le_refl _) _).alloc (by simp) _ | exact (Below.below ((Below.refl _ _).alloc (Nat.le_refl _) _) B1.out).alloc (by have := B1.out.size; simp at this; omega) _
set_option maxRecDepth 100000 in
theorem nilSteps (w : World) : Calls Tryz.prog 37 #[.pointer none] w fun e w' => e = .returned (.int .i64 0) ∧ Below w.heap.size w w' := by
  have HI := hid nilIs
  have HN := hid nilNamed
  have HF := hid nilFind
  go_enter Tryz.func37, Tryz.ntmps37
  go_wp2_with (first | (go_at_call 40; refine (HF.out _ _).mono ?_; rintro e w1 ⟨rfl, hb1⟩; have B1 := hid hb1; clear hb1) | (go_at_call 62; refine (HN.out _ _).mono ?_; rintro e w1 ⟨rfl, hb1⟩; have B1 := hid hb1; clear hb1) | (go_at_call 53; refine (HI.out _).mono ?_; rintro e w1 ⟨rfl, rfl⟩))
  go_ret
  refine ⟨rfl, ?_⟩
  first | exact Below.refl _ _ | exact B1.out | exact Below.below ((Below.refl _ _).alloc (Nat.le_refl _) _) B1.out | exact Below.below (((Below.refl _ _).alloc (Nat.le_refl _) _).alloc (by simp) _) B1.out | exact Below.below ((((Below.refl _ _).alloc (Nat.le_refl _) _).alloc (by simp) _).alloc (by simp <;> omega) _) B1.out | exact Below.below (((((Below.refl _ _).alloc (Nat.le_refl _) _).alloc (by simp) _).alloc (by simp <;> omega) _).alloc (by simp <;> omega) _) B1.out | exact B1.out.alloc B1.out.size _ | exact (Below.refl _ _).alloc (Nat.le_refl _) _ | exact ((Below.refl _ _).alloc (Nat.le_refl _) _).alloc (by simp) _ | exact (Below.below ((Below.refl _ _).alloc (Nat.le_refl _) _) B1.out).alloc (by have := B1.out.size; simp at this; omega) _
set_option maxRecDepth 100000 in
theorem nilCopy (w : World) : Calls Tryz.prog 9 #[.pointer none] w fun e w' => e = .returned (.pointer none) ∧ Below w.heap.size w w' := by
  have HI := hid nilIs
  have HN := hid nilNamed
  have HF := hid nilFind
  go_enter Tryz.func9, Tryz.ntmps9
  go_wp2_with (first | (go_at_call 40; refine (HF.out _ _).mono ?_; rintro e w1 ⟨rfl, hb1⟩; have B1 := hid hb1; clear hb1) | (go_at_call 62; refine (HN.out _ _).mono ?_; rintro e w1 ⟨rfl, hb1⟩; have B1 := hid hb1; clear hb1) | (go_at_call 53; refine (HI.out _).mono ?_; rintro e w1 ⟨rfl, rfl⟩))
  go_ret
  refine ⟨rfl, ?_⟩
  first | exact Below.refl _ _ | exact B1.out | exact Below.below ((Below.refl _ _).alloc (Nat.le_refl _) _) B1.out | exact Below.below (((Below.refl _ _).alloc (Nat.le_refl _) _).alloc (by simp) _) B1.out | exact Below.below ((((Below.refl _ _).alloc (Nat.le_refl _) _).alloc (by simp) _).alloc (by simp <;> omega) _) B1.out | exact Below.below (((((Below.refl _ _).alloc (Nat.le_refl _) _).alloc (by simp) _).alloc (by simp <;> omega) _).alloc (by simp <;> omega) _) B1.out | exact B1.out.alloc B1.out.size _ | exact (Below.refl _ _).alloc (Nat.le_refl _) _ | exact ((Below.refl _ _).alloc (Nat.le_refl _) _).alloc (by simp) _ | exact (Below.below ((Below.refl _ _).alloc (Nat.le_refl _) _) B1.out).alloc (by have := B1.out.size; simp at this; omega) _
set_option maxRecDepth 100000 in
theorem nilList (w : World) : Calls Tryz.prog 10 #[.pointer none] w fun e w' => e = .returned (.slice none 0 0) ∧ Below w.heap.size w w' := by
  have HI := hid nilIs
  have HN := hid nilNamed
  have HF := hid nilFind
  go_enter Tryz.func10, Tryz.ntmps10
  go_wp2_with (first | (go_at_call 40; refine (HF.out _ _).mono ?_; rintro e w1 ⟨rfl, hb1⟩; have B1 := hid hb1; clear hb1) | (go_at_call 62; refine (HN.out _ _).mono ?_; rintro e w1 ⟨rfl, hb1⟩; have B1 := hid hb1; clear hb1) | (go_at_call 53; refine (HI.out _).mono ?_; rintro e w1 ⟨rfl, rfl⟩))
  go_ret
  refine ⟨rfl, ?_⟩
  first | exact Below.refl _ _ | exact B1.out | exact Below.below ((Below.refl _ _).alloc (Nat.le_refl _) _) B1.out | exact Below.below (((Below.refl _ _).alloc (Nat.le_refl _) _).alloc (by simp) _) B1.out | exact Below.below ((((Below.refl _ _).alloc (Nat.le_refl _) _).alloc (by simp) _).alloc (by simp <;> omega) _) B1.out | exact Below.below (((((Below.refl _ _).alloc (Nat.le_refl _) _).alloc (by simp) _).alloc (by simp <;> omega) _).alloc (by simp <;> omega) _) B1.out | exact B1.out.alloc B1.out.size _ | exact (Below.refl _ _).alloc (Nat.le_refl _) _ | exact ((Below.refl _ _).alloc (Nat.le_refl _) _).alloc (by simp) _ | exact (Below.below ((Below.refl _ _).alloc (Nat.le_refl _) _) B1.out).alloc (by have := B1.out.size; simp at this; omega) _
end Go.Proofs.YtgehalfnpbjjcaaGreat
