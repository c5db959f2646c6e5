/- simfs: what a nil one says. -/
import Derived.Test.YtgehalfnpbjjcaaSimT
import Derived.Test.YtgehalfnpbjjcaaSimH
import Derived.Test.YtgehalfnpbjjcaaSimK
import Derived.Test.YtgehalfnpbjjcaaSimF
namespace Go.Proofs.Ytgehalfnpbjjcaa
open Go Go.RowKit Go.Sort
set_option maxRecDepth 100000 in
theorem nilIs (w : World) : Calls Try.prog 53 #[.pointer none] w fun e w' => e = .returned (.int .i64 18) ∧ w' = w := by
  go_enter Try.func53, Try.ntmps53
  go_wp2
  go_ret
  exact ⟨rfl, rfl⟩
set_option maxRecDepth 100000 in
theorem nilNamed (w : World) (v : Value) : Calls Try.prog 37 #[.pointer none, v] w fun e w' => e = .returned (.int .i64 18) ∧ Below w.heap.size w w' := by
  have HI := hid nilIs
  go_enter Try.func37, Try.ntmps37
  go_wp2_with (go_at_call 53; refine (HI.out _).mono ?_; rintro e w1 ⟨rfl, rfl⟩)
  go_ret
  exact ⟨rfl, Below.refl _ _⟩
set_option maxRecDepth 100000 in
theorem nilFind (w : World) (s : ByteArray) : Calls Try.prog 33 #[.pointer none, .string s] w fun e w' => e = .returned (.tuple #[.pointer none, .int .i64 18]) ∧ Below w.heap.size w w' := by
  have HN := hid nilNamed
  have hb0 : Below w.heap.size w (w.alloc (.cells #[.string s] 9 (0, 0))) := (Below.refl _ _).alloc (Nat.le_refl _) _
  go_enter Try.func33, Try.ntmps33
  go_wp2_with (go_at_call 37; refine (HN.out _ _).mono ?_; rintro e w1 ⟨rfl, hb1⟩)
  go_ret2
  exact ⟨rfl, Below.below hb0 hb1⟩
set_option maxRecDepth 100000 in
theorem nilCreate (w : World) (s : ByteArray) : Calls Try.prog 10 #[.pointer none, .string s] w fun e w' => e = .returned (.int .i64 18) ∧ Below w.heap.size w w' := by
  have HI := hid nilIs
  have HN := hid nilNamed
  have HF := hid nilFind
  go_enter Try.func10, Try.ntmps10
  go_wp2_with (first | (go_at_call 33; refine (HF.out _ _).mono ?_; rintro e w1 ⟨rfl, hb1⟩; have B1 := hid hb1; clear hb1) | (go_at_call 37; refine (HN.out _ _).mono ?_; rintro e w1 ⟨rfl, hb1⟩; have B1 := hid hb1; clear hb1) | (go_at_call 53; refine (HI.out _).mono ?_; rintro e w1 ⟨rfl, rfl⟩))
  go_ret
  refine ⟨rfl, ?_⟩
  first | exact Below.refl _ _ | exact B1.out | exact Below.below ((Below.refl _ _).alloc (Nat.le_refl _) _) B1.out | exact Below.below (((Below.refl _ _).alloc (Nat.le_refl _) _).alloc (by simp) _) B1.out | exact Below.below ((((Below.refl _ _).alloc (Nat.le_refl _) _).alloc (by simp) _).alloc (by simp <;> omega) _) B1.out | exact Below.below (((((Below.refl _ _).alloc (Nat.le_refl _) _).alloc (by simp) _).alloc (by simp <;> omega) _).alloc (by simp <;> omega) _) B1.out | exact B1.out.alloc B1.out.size _ | exact (Below.refl _ _).alloc (Nat.le_refl _) _ | exact ((Below.refl _ _).alloc (Nat.le_refl _) _).alloc (by simp) _ | exact (Below.below ((Below.refl _ _).alloc (Nat.le_refl _) _) B1.out).alloc (by have := B1.out.size; simp at this; omega) _
set_option maxRecDepth 100000 in
theorem nilAppend (w : World) (s : ByteArray) : Calls Try.prog 14 #[.pointer none, .string s, .slice none 0 0] w fun e w' => e = .returned (.int .i64 18) ∧ Below w.heap.size w w' := by
  have HI := hid nilIs
  have HN := hid nilNamed
  have HF := hid nilFind
  go_enter Try.func14, Try.ntmps14
  go_wp2_with (first | (go_at_call 33; refine (HF.out _ _).mono ?_; rintro e w1 ⟨rfl, hb1⟩; have B1 := hid hb1; clear hb1) | (go_at_call 37; refine (HN.out _ _).mono ?_; rintro e w1 ⟨rfl, hb1⟩; have B1 := hid hb1; clear hb1) | (go_at_call 53; refine (HI.out _).mono ?_; rintro e w1 ⟨rfl, rfl⟩))
  go_ret
  refine ⟨rfl, ?_⟩
  first | exact Below.refl _ _ | exact B1.out | exact Below.below ((Below.refl _ _).alloc (Nat.le_refl _) _) B1.out | exact Below.below (((Below.refl _ _).alloc (Nat.le_refl _) _).alloc (by simp) _) B1.out | exact Below.below ((((Below.refl _ _).alloc (Nat.le_refl _) _).alloc (by simp) _).alloc (by simp <;> omega) _) B1.out | exact Below.below (((((Below.refl _ _).alloc (Nat.le_refl _) _).alloc (by simp) _).alloc (by simp <;> omega) _).alloc (by simp <;> omega) _) B1.out | exact B1.out.alloc B1.out.size _ | exact (Below.refl _ _).alloc (Nat.le_refl _) _ | exact ((Below.refl _ _).alloc (Nat.le_refl _) _).alloc (by simp) _ | exact (Below.below ((Below.refl _ _).alloc (Nat.le_refl _) _) B1.out).alloc (by have := B1.out.size; simp at this; omega) _
set_option maxRecDepth 100000 in
theorem nilRead (w : World) (s : ByteArray) : Calls Try.prog 12 #[.pointer none, .string s] w fun e w' => e = .returned (.tuple #[.slice none 0 0, .int .i64 18]) ∧ Below w.heap.size w w' := by
  have HI := hid nilIs
  have HN := hid nilNamed
  have HF := hid nilFind
  go_enter Try.func12, Try.ntmps12
  go_wp2_with (first | (go_at_call 33; refine (HF.out _ _).mono ?_; rintro e w1 ⟨rfl, hb1⟩; have B1 := hid hb1; clear hb1) | (go_at_call 37; refine (HN.out _ _).mono ?_; rintro e w1 ⟨rfl, hb1⟩; have B1 := hid hb1; clear hb1) | (go_at_call 53; refine (HI.out _).mono ?_; rintro e w1 ⟨rfl, rfl⟩))
  go_ret2
  refine ⟨rfl, ?_⟩
  first | exact Below.refl _ _ | exact B1.out | exact Below.below ((Below.refl _ _).alloc (Nat.le_refl _) _) B1.out | exact Below.below (((Below.refl _ _).alloc (Nat.le_refl _) _).alloc (by simp) _) B1.out | exact Below.below ((((Below.refl _ _).alloc (Nat.le_refl _) _).alloc (by simp) _).alloc (by simp <;> omega) _) B1.out | exact Below.below (((((Below.refl _ _).alloc (Nat.le_refl _) _).alloc (by simp) _).alloc (by simp <;> omega) _).alloc (by simp <;> omega) _) B1.out | exact B1.out.alloc B1.out.size _ | exact (Below.refl _ _).alloc (Nat.le_refl _) _ | exact ((Below.refl _ _).alloc (Nat.le_refl _) _).alloc (by simp) _ | exact (Below.below ((Below.refl _ _).alloc (Nat.le_refl _) _) B1.out).alloc (by have := B1.out.size; simp at this; omega) _
set_option maxRecDepth 100000 in
theorem nilSize (w : World) (s : ByteArray) : Calls Try.prog 13 #[.pointer none, .string s] w fun e w' => e = .returned (.tuple #[.int .i64 0, .int .i64 18]) ∧ Below w.heap.size w w' := by
  have HI := hid nilIs
  have HN := hid nilNamed
  have HF := hid nilFind
  go_enter Try.func13, Try.ntmps13
  go_wp2_with (first | (go_at_call 33; refine (HF.out _ _).mono ?_; rintro e w1 ⟨rfl, hb1⟩; have B1 := hid hb1; clear hb1) | (go_at_call 37; refine (HN.out _ _).mono ?_; rintro e w1 ⟨rfl, hb1⟩; have B1 := hid hb1; clear hb1) | (go_at_call 53; refine (HI.out _).mono ?_; rintro e w1 ⟨rfl, rfl⟩))
  go_ret2
  refine ⟨rfl, ?_⟩
  first | exact Below.refl _ _ | exact B1.out | exact Below.below ((Below.refl _ _).alloc (Nat.le_refl _) _) B1.out | exact Below.below (((Below.refl _ _).alloc (Nat.le_refl _) _).alloc (by simp) _) B1.out | exact Below.below ((((Below.refl _ _).alloc (Nat.le_refl _) _).alloc (by simp) _).alloc (by simp <;> omega) _) B1.out | exact Below.below (((((Below.refl _ _).alloc (Nat.le_refl _) _).alloc (by simp) _).alloc (by simp <;> omega) _).alloc (by simp <;> omega) _) B1.out | exact B1.out.alloc B1.out.size _ | exact (Below.refl _ _).alloc (Nat.le_refl _) _ | exact ((Below.refl _ _).alloc (Nat.le_refl _) _).alloc (by simp) _ | exact (Below.below ((Below.refl _ _).alloc (Nat.le_refl _) _) B1.out).alloc (by have := B1.out.size; simp at this; omega) _
set_option maxRecDepth 100000 in
theorem nilRename (w : World) (s : ByteArray) (t : ByteArray) : Calls Try.prog 11 #[.pointer none, .string s, .string t] w fun e w' => e = .returned (.int .i64 18) ∧ Below w.heap.size w w' := by
  have HI := hid nilIs
  have HN := hid nilNamed
  have HF := hid nilFind
  go_enter Try.func11, Try.ntmps11
  go_wp2_with (first | (go_at_call 33; refine (HF.out _ _).mono ?_; rintro e w1 ⟨rfl, hb1⟩; have B1 := hid hb1; clear hb1) | (go_at_call 37; refine (HN.out _ _).mono ?_; rintro e w1 ⟨rfl, hb1⟩; have B1 := hid hb1; clear hb1) | (go_at_call 53; refine (HI.out _).mono ?_; rintro e w1 ⟨rfl, rfl⟩))
  go_ret
  refine ⟨rfl, ?_⟩
  first | exact Below.refl _ _ | exact B1.out | exact Below.below ((Below.refl _ _).alloc (Nat.le_refl _) _) B1.out | exact Below.below (((Below.refl _ _).alloc (Nat.le_refl _) _).alloc (by simp) _) B1.out | exact Below.below ((((Below.refl _ _).alloc (Nat.le_refl _) _).alloc (by simp) _).alloc (by simp <;> omega) _) B1.out | exact Below.below (((((Below.refl _ _).alloc (Nat.le_refl _) _).alloc (by simp) _).alloc (by simp <;> omega) _).alloc (by simp <;> omega) _) B1.out | exact B1.out.alloc B1.out.size _ | exact (Below.refl _ _).alloc (Nat.le_refl _) _ | exact ((Below.refl _ _).alloc (Nat.le_refl _) _).alloc (by simp) _ | exact (Below.below ((Below.refl _ _).alloc (Nat.le_refl _) _) B1.out).alloc (by have := B1.out.size; simp at this; omega) _
set_option maxRecDepth 100000 in
theorem nilRemove (w : World) (s : ByteArray) : Calls Try.prog 15 #[.pointer none, .string s] w fun e w' => e = .returned (.int .i64 18) ∧ Below w.heap.size w w' := by
  have HI := hid nilIs
  have HN := hid nilNamed
  have HF := hid nilFind
  go_enter Try.func15, Try.ntmps15
  go_wp2_with (first | (go_at_call 33; refine (HF.out _ _).mono ?_; rintro e w1 ⟨rfl, hb1⟩; have B1 := hid hb1; clear hb1) | (go_at_call 37; refine (HN.out _ _).mono ?_; rintro e w1 ⟨rfl, hb1⟩; have B1 := hid hb1; clear hb1) | (go_at_call 53; refine (HI.out _).mono ?_; rintro e w1 ⟨rfl, rfl⟩))
  go_ret
  refine ⟨rfl, ?_⟩
  first | exact Below.refl _ _ | exact B1.out | exact Below.below ((Below.refl _ _).alloc (Nat.le_refl _) _) B1.out | exact Below.below (((Below.refl _ _).alloc (Nat.le_refl _) _).alloc (by simp) _) B1.out | exact Below.below ((((Below.refl _ _).alloc (Nat.le_refl _) _).alloc (by simp) _).alloc (by simp <;> omega) _) B1.out | exact Below.below (((((Below.refl _ _).alloc (Nat.le_refl _) _).alloc (by simp) _).alloc (by simp <;> omega) _).alloc (by simp <;> omega) _) B1.out | exact B1.out.alloc B1.out.size _ | exact (Below.refl _ _).alloc (Nat.le_refl _) _ | exact ((Below.refl _ _).alloc (Nat.le_refl _) _).alloc (by simp) _ | exact (Below.below ((Below.refl _ _).alloc (Nat.le_refl _) _) B1.out).alloc (by have := B1.out.size; simp at this; omega) _
set_option maxRecDepth 100000 in
theorem nilFsync (w : World) (s : ByteArray) : Calls Try.prog 16 #[.pointer none, .string s] w fun e w' => e = .returned (.int .i64 18) ∧ Below w.heap.size w w' := by
  have HI := hid nilIs
  have HN := hid nilNamed
  have HF := hid nilFind
  go_enter Try.func16, Try.ntmps16
  go_wp2_with (first | (go_at_call 33; refine (HF.out _ _).mono ?_; rintro e w1 ⟨rfl, hb1⟩; have B1 := hid hb1; clear hb1) | (go_at_call 37; refine (HN.out _ _).mono ?_; rintro e w1 ⟨rfl, hb1⟩; have B1 := hid hb1; clear hb1) | (go_at_call 53; refine (HI.out _).mono ?_; rintro e w1 ⟨rfl, rfl⟩))
  go_ret
  refine ⟨rfl, ?_⟩
  first | exact Below.refl _ _ | exact B1.out | exact Below.below ((Below.refl _ _).alloc (Nat.le_refl _) _) B1.out | exact Below.below (((Below.refl _ _).alloc (Nat.le_refl _) _).alloc (by simp) _) B1.out | exact Below.below ((((Below.refl _ _).alloc (Nat.le_refl _) _).alloc (by simp) _).alloc (by simp <;> omega) _) B1.out | exact Below.below (((((Below.refl _ _).alloc (Nat.le_refl _) _).alloc (by simp) _).alloc (by simp <;> omega) _).alloc (by simp <;> omega) _) B1.out | exact B1.out.alloc B1.out.size _ | exact (Below.refl _ _).alloc (Nat.le_refl _) _ | exact ((Below.refl _ _).alloc (Nat.le_refl _) _).alloc (by simp) _ | exact (Below.below ((Below.refl _ _).alloc (Nat.le_refl _) _) B1.out).alloc (by have := B1.out.size; simp at this; omega) _
set_option maxRecDepth 100000 in
theorem nilSync (w : World) : Calls Try.prog 21 #[.pointer none] w fun e w' => e = .returned (.int .i64 18) ∧ Below w.heap.size w w' := by
  have HI := hid nilIs
  have HN := hid nilNamed
  have HF := hid nilFind
  go_enter Try.func21, Try.ntmps21
  go_wp2_with (first | (go_at_call 33; refine (HF.out _ _).mono ?_; rintro e w1 ⟨rfl, hb1⟩; have B1 := hid hb1; clear hb1) | (go_at_call 37; refine (HN.out _ _).mono ?_; rintro e w1 ⟨rfl, hb1⟩; have B1 := hid hb1; clear hb1) | (go_at_call 53; refine (HI.out _).mono ?_; rintro e w1 ⟨rfl, rfl⟩))
  go_ret
  refine ⟨rfl, ?_⟩
  first | exact Below.refl _ _ | exact B1.out | exact Below.below ((Below.refl _ _).alloc (Nat.le_refl _) _) B1.out | exact Below.below (((Below.refl _ _).alloc (Nat.le_refl _) _).alloc (by simp) _) B1.out | exact Below.below ((((Below.refl _ _).alloc (Nat.le_refl _) _).alloc (by simp) _).alloc (by simp <;> omega) _) B1.out | exact Below.below (((((Below.refl _ _).alloc (Nat.le_refl _) _).alloc (by simp) _).alloc (by simp <;> omega) _).alloc (by simp <;> omega) _) B1.out | exact B1.out.alloc B1.out.size _ | exact (Below.refl _ _).alloc (Nat.le_refl _) _ | exact ((Below.refl _ _).alloc (Nat.le_refl _) _).alloc (by simp) _ | exact (Below.below ((Below.refl _ _).alloc (Nat.le_refl _) _) B1.out).alloc (by have := B1.out.size; simp at this; omega) _
set_option maxRecDepth 100000 in
theorem nilArm (w : World) (n : Int) : Calls Try.prog 25 #[.pointer none, .int .i64 n] w fun e w' => e = .returned (.int .i64 18) ∧ Below w.heap.size w w' := by
  have HI := hid nilIs
  have HN := hid nilNamed
  have HF := hid nilFind
  go_enter Try.func25, Try.ntmps25
  go_wp2_with (first | (go_at_call 33; refine (HF.out _ _).mono ?_; rintro e w1 ⟨rfl, hb1⟩; have B1 := hid hb1; clear hb1) | (go_at_call 37; refine (HN.out _ _).mono ?_; rintro e w1 ⟨rfl, hb1⟩; have B1 := hid hb1; clear hb1) | (go_at_call 53; refine (HI.out _).mono ?_; rintro e w1 ⟨rfl, rfl⟩))
  go_ret
  refine ⟨rfl, ?_⟩
  first | exact Below.refl _ _ | exact B1.out | exact Below.below ((Below.refl _ _).alloc (Nat.le_refl _) _) B1.out | exact Below.below (((Below.refl _ _).alloc (Nat.le_refl _) _).alloc (by simp) _) B1.out | exact Below.below ((((Below.refl _ _).alloc (Nat.le_refl _) _).alloc (by simp) _).alloc (by simp <;> omega) _) B1.out | exact Below.below (((((Below.refl _ _).alloc (Nat.le_refl _) _).alloc (by simp) _).alloc (by simp <;> omega) _).alloc (by simp <;> omega) _) B1.out | exact B1.out.alloc B1.out.size _ | exact (Below.refl _ _).alloc (Nat.le_refl _) _ | exact ((Below.refl _ _).alloc (Nat.le_refl _) _).alloc (by simp) _ | exact (Below.below ((Below.refl _ _).alloc (Nat.le_refl _) _) B1.out).alloc (by have := B1.out.size; simp at this; omega) _
set_option maxRecDepth 100000 in
theorem nilDown (w : World) : Calls Try.prog 24 #[.pointer none] w fun e w' => e = .returned (.bool false) ∧ Below w.heap.size w w' := by
  have HI := hid nilIs
  have HN := hid nilNamed
  have HF := hid nilFind
  go_enter Try.func24, Try.ntmps24
  go_wp2_with (first | (go_at_call 33; refine (HF.out _ _).mono ?_; rintro e w1 ⟨rfl, hb1⟩; have B1 := hid hb1; clear hb1) | (go_at_call 37; refine (HN.out _ _).mono ?_; rintro e w1 ⟨rfl, hb1⟩; have B1 := hid hb1; clear hb1) | (go_at_call 53; refine (HI.out _).mono ?_; rintro e w1 ⟨rfl, rfl⟩))
  go_ret
  refine ⟨rfl, ?_⟩
  first | exact Below.refl _ _ | exact B1.out | exact Below.below ((Below.refl _ _).alloc (Nat.le_refl _) _) B1.out | exact Below.below (((Below.refl _ _).alloc (Nat.le_refl _) _).alloc (by simp) _) B1.out | exact Below.below ((((Below.refl _ _).alloc (Nat.le_refl _) _).alloc (by simp) _).alloc (by simp <;> omega) _) B1.out | exact Below.below (((((Below.refl _ _).alloc (Nat.le_refl _) _).alloc (by simp) _).alloc (by simp <;> omega) _).alloc (by simp <;> omega) _) B1.out | exact B1.out.alloc B1.out.size _ | exact (Below.refl _ _).alloc (Nat.le_refl _) _ | exact ((Below.refl _ _).alloc (Nat.le_refl _) _).alloc (by simp) _ | exact (Below.below ((Below.refl _ _).alloc (Nat.le_refl _) _) B1.out).alloc (by have := B1.out.size; simp at this; omega) _
set_option maxRecDepth 100000 in
theorem nilUp (w : World) (n : Int) (v : Value) : Calls Try.prog 22 #[.pointer none, .int .i64 n, v] w fun e w' => e = .returned (.int .i64 18) ∧ Below w.heap.size w w' := by
  have HI := hid nilIs
  have HN := hid nilNamed
  have HF := hid nilFind
  go_enter Try.func22, Try.ntmps22
  go_wp2_with (first | (go_at_call 33; refine (HF.out _ _).mono ?_; rintro e w1 ⟨rfl, hb1⟩; have B1 := hid hb1; clear hb1) | (go_at_call 37; refine (HN.out _ _).mono ?_; rintro e w1 ⟨rfl, hb1⟩; have B1 := hid hb1; clear hb1) | (go_at_call 53; refine (HI.out _).mono ?_; rintro e w1 ⟨rfl, rfl⟩))
  go_ret
  refine ⟨rfl, ?_⟩
  first | exact Below.refl _ _ | exact B1.out | exact Below.below ((Below.refl _ _).alloc (Nat.le_refl _) _) B1.out | exact Below.below (((Below.refl _ _).alloc (Nat.le_refl _) _).alloc (by simp) _) B1.out | exact Below.below ((((Below.refl _ _).alloc (Nat.le_refl _) _).alloc (by simp) _).alloc (by simp <;> omega) _) B1.out | exact Below.below (((((Below.refl _ _).alloc (Nat.le_refl _) _).alloc (by simp) _).alloc (by simp <;> omega) _).alloc (by simp <;> omega) _) B1.out | exact B1.out.alloc B1.out.size _ | exact (Below.refl _ _).alloc (Nat.le_refl _) _ | exact ((Below.refl _ _).alloc (Nat.le_refl _) _).alloc (by simp) _ | exact (Below.below ((Below.refl _ _).alloc (Nat.le_refl _) _) B1.out).alloc (by have := B1.out.size; simp at this; omega) _
set_option maxRecDepth 100000 in
theorem nilFlip (w : World) (s : ByteArray) (i j : Value) : Calls Try.prog 17 #[.pointer none, .string s, i, j] w fun e w' => e = .returned (.int .i64 18) ∧ Below w.heap.size w w' := by
  have HI := hid nilIs
  have HN := hid nilNamed
  have HF := hid nilFind
  go_enter Try.func17, Try.ntmps17
  go_wp2_with (first | (go_at_call 33; refine (HF.out _ _).mono ?_; rintro e w1 ⟨rfl, hb1⟩; have B1 := hid hb1; clear hb1) | (go_at_call 37; refine (HN.out _ _).mono ?_; rintro e w1 ⟨rfl, hb1⟩; have B1 := hid hb1; clear hb1) | (go_at_call 53; refine (HI.out _).mono ?_; rintro e w1 ⟨rfl, rfl⟩))
  go_ret
  refine ⟨rfl, ?_⟩
  first | exact Below.refl _ _ | exact B1.out | exact Below.below ((Below.refl _ _).alloc (Nat.le_refl _) _) B1.out | exact Below.below (((Below.refl _ _).alloc (Nat.le_refl _) _).alloc (by simp) _) B1.out | exact Below.below ((((Below.refl _ _).alloc (Nat.le_refl _) _).alloc (by simp) _).alloc (by simp <;> omega) _) B1.out | exact Below.below (((((Below.refl _ _).alloc (Nat.le_refl _) _).alloc (by simp) _).alloc (by simp <;> omega) _).alloc (by simp <;> omega) _) B1.out | exact B1.out.alloc B1.out.size _ | exact (Below.refl _ _).alloc (Nat.le_refl _) _ | exact ((Below.refl _ _).alloc (Nat.le_refl _) _).alloc (by simp) _ | exact (Below.below ((Below.refl _ _).alloc (Nat.le_refl _) _) B1.out).alloc (by have := B1.out.size; simp at this; omega) _
set_option maxRecDepth 100000 in
theorem nilUsed (w : World) : Calls Try.prog 29 #[.pointer none] w fun e w' => e = .returned (.int .i64 0) ∧ Below w.heap.size w w' := by
  have HI := hid nilIs
  have HN := hid nilNamed
  have HF := hid nilFind
  go_enter Try.func29, Try.ntmps29
  go_wp2_with (first | (go_at_call 33; refine (HF.out _ _).mono ?_; rintro e w1 ⟨rfl, hb1⟩; have B1 := hid hb1; clear hb1) | (go_at_call 37; refine (HN.out _ _).mono ?_; rintro e w1 ⟨rfl, hb1⟩; have B1 := hid hb1; clear hb1) | (go_at_call 53; refine (HI.out _).mono ?_; rintro e w1 ⟨rfl, rfl⟩))
  go_ret
  refine ⟨rfl, ?_⟩
  first | exact Below.refl _ _ | exact B1.out | exact Below.below ((Below.refl _ _).alloc (Nat.le_refl _) _) B1.out | exact Below.below (((Below.refl _ _).alloc (Nat.le_refl _) _).alloc (by simp) _) B1.out | exact Below.below ((((Below.refl _ _).alloc (Nat.le_refl _) _).alloc (by simp) _).alloc (by simp <;> omega) _) B1.out | exact Below.below (((((Below.refl _ _).alloc (Nat.le_refl _) _).alloc (by simp) _).alloc (by simp <;> omega) _).alloc (by simp <;> omega) _) B1.out | exact B1.out.alloc B1.out.size _ | exact (Below.refl _ _).alloc (Nat.le_refl _) _ | exact ((Below.refl _ _).alloc (Nat.le_refl _) _).alloc (by simp) _ | exact (Below.below ((Below.refl _ _).alloc (Nat.le_refl _) _) B1.out).alloc (by have := B1.out.size; simp at this; omega) _
set_option maxRecDepth 100000 in
theorem nilSteps (w : World) : Calls Try.prog 27 #[.pointer none] w fun e w' => e = .returned (.int .i64 0) ∧ Below w.heap.size w w' := by
  have HI := hid nilIs
  have HN := hid nilNamed
  have HF := hid nilFind
  go_enter Try.func27, Try.ntmps27
  go_wp2_with (first | (go_at_call 33; refine (HF.out _ _).mono ?_; rintro e w1 ⟨rfl, hb1⟩; have B1 := hid hb1; clear hb1) | (go_at_call 37; refine (HN.out _ _).mono ?_; rintro e w1 ⟨rfl, hb1⟩; have B1 := hid hb1; clear hb1) | (go_at_call 53; refine (HI.out _).mono ?_; rintro e w1 ⟨rfl, rfl⟩))
  go_ret
  refine ⟨rfl, ?_⟩
  first | exact Below.refl _ _ | exact B1.out | exact Below.below ((Below.refl _ _).alloc (Nat.le_refl _) _) B1.out | exact Below.below (((Below.refl _ _).alloc (Nat.le_refl _) _).alloc (by simp) _) B1.out | exact Below.below ((((Below.refl _ _).alloc (Nat.le_refl _) _).alloc (by simp) _).alloc (by simp <;> omega) _) B1.out | exact Below.below (((((Below.refl _ _).alloc (Nat.le_refl _) _).alloc (by simp) _).alloc (by simp <;> omega) _).alloc (by simp <;> omega) _) B1.out | exact B1.out.alloc B1.out.size _ | exact (Below.refl _ _).alloc (Nat.le_refl _) _ | exact ((Below.refl _ _).alloc (Nat.le_refl _) _).alloc (by simp) _ | exact (Below.below ((Below.refl _ _).alloc (Nat.le_refl _) _) B1.out).alloc (by have := B1.out.size; simp at this; omega) _
set_option maxRecDepth 100000 in
theorem nilCopy (w : World) : Calls Try.prog 30 #[.pointer none] w fun e w' => e = .returned (.pointer none) ∧ Below w.heap.size w w' := by
  have HI := hid nilIs
  have HN := hid nilNamed
  have HF := hid nilFind
  go_enter Try.func30, Try.ntmps30
  go_wp2_with (first | (go_at_call 33; refine (HF.out _ _).mono ?_; rintro e w1 ⟨rfl, hb1⟩; have B1 := hid hb1; clear hb1) | (go_at_call 37; refine (HN.out _ _).mono ?_; rintro e w1 ⟨rfl, hb1⟩; have B1 := hid hb1; clear hb1) | (go_at_call 53; refine (HI.out _).mono ?_; rintro e w1 ⟨rfl, rfl⟩))
  go_ret
  refine ⟨rfl, ?_⟩
  first | exact Below.refl _ _ | exact B1.out | exact Below.below ((Below.refl _ _).alloc (Nat.le_refl _) _) B1.out | exact Below.below (((Below.refl _ _).alloc (Nat.le_refl _) _).alloc (by simp) _) B1.out | exact Below.below ((((Below.refl _ _).alloc (Nat.le_refl _) _).alloc (by simp) _).alloc (by simp <;> omega) _) B1.out | exact Below.below (((((Below.refl _ _).alloc (Nat.le_refl _) _).alloc (by simp) _).alloc (by simp <;> omega) _).alloc (by simp <;> omega) _) B1.out | exact B1.out.alloc B1.out.size _ | exact (Below.refl _ _).alloc (Nat.le_refl _) _ | exact ((Below.refl _ _).alloc (Nat.le_refl _) _).alloc (by simp) _ | exact (Below.below ((Below.refl _ _).alloc (Nat.le_refl _) _) B1.out).alloc (by have := B1.out.size; simp at this; omega) _
set_option maxRecDepth 100000 in
theorem nilList (w : World) : Calls Try.prog 28 #[.pointer none] w fun e w' => e = .returned (.slice none 0 0) ∧ Below w.heap.size w w' := by
  have HI := hid nilIs
  have HN := hid nilNamed
  have HF := hid nilFind
  go_enter Try.func28, Try.ntmps28
  go_wp2_with (first | (go_at_call 33; refine (HF.out _ _).mono ?_; rintro e w1 ⟨rfl, hb1⟩; have B1 := hid hb1; clear hb1) | (go_at_call 37; refine (HN.out _ _).mono ?_; rintro e w1 ⟨rfl, hb1⟩; have B1 := hid hb1; clear hb1) | (go_at_call 53; refine (HI.out _).mono ?_; rintro e w1 ⟨rfl, rfl⟩))
  go_ret
  refine ⟨rfl, ?_⟩
  first | exact Below.refl _ _ | exact B1.out | exact Below.below ((Below.refl _ _).alloc (Nat.le_refl _) _) B1.out | exact Below.below (((Below.refl _ _).alloc (Nat.le_refl _) _).alloc (by simp) _) B1.out | exact Below.below ((((Below.refl _ _).alloc (Nat.le_refl _) _).alloc (by simp) _).alloc (by simp <;> omega) _) B1.out | exact Below.below (((((Below.refl _ _).alloc (Nat.le_refl _) _).alloc (by simp) _).alloc (by simp <;> omega) _).alloc (by simp <;> omega) _) B1.out | exact B1.out.alloc B1.out.size _ | exact (Below.refl _ _).alloc (Nat.le_refl _) _ | exact ((Below.refl _ _).alloc (Nat.le_refl _) _).alloc (by simp) _ | exact (Below.below ((Below.refl _ _).alloc (Nat.le_refl _) _) B1.out).alloc (by have := B1.out.size; simp at this; omega) _
end Go.Proofs.Ytgehalfnpbjjcaa
