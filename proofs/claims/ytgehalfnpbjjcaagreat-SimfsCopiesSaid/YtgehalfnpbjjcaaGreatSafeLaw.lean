/- SimfsSafe: walked. -/
import Derived.Test.YtgehalfnpbjjcaaGreatArmsLaw
import Derived.Test.YtgehalfnpbjjcaaGreatSafeP
namespace Go.Proofs.YtgehalfnpbjjcaaGreat
open Go Go.RowKit Go.Sort
/-- One file system, in blocks from base on. -/
def One (base : Nat) (w : World) (sb : Nat) (st : FSt) (N : Nat) : Prop := ∃ F D, FSr w F D sb st ∧ (∀ k, F k → base ≤ k) ∧ FewS st N
theorem Two.one {base : Nat} {w : World} {sb rb N : Nat} {st : FSt} (h : Two base w sb rb st N) : One base w sb st N := by
  obtain ⟨Fs, Ds, Gr, Er, rs, hB⟩ := h
  exact ⟨Fs, Ds, hB.fs, hB.b1, hB.few⟩
section
variable {base : Nat} {w w' : World} {sb N : Nat} {st st' : FSt}
theorem One.ok (h : One base w sb st N) : st.Ok := by
  obtain ⟨F, D, h1, _⟩ := h
  exact h1.ok
theorem One.few (h : One base w sb st N) : FewS st N := by
  obtain ⟨F, D, _, _, h3⟩ := h
  exact h3
theorem One.below (h : One base w sb st N) (hb : Below w.heap.size w w') : One base w' sb st N := by
  obtain ⟨F, D, h1, h2, h3⟩ := h
  exact ⟨F, D, h1.below hb, h2, h3⟩
theorem one_turn {F D F' D' : Nat → Prop} (_h1 : FSr w F D sb st) (h2 : ∀ k, F k → base ≤ k) (hb : base ≤ w.heap.size) (h' : FSr w' F' D' sb st') (t : Turn F D F' D' w w') {M : Nat} (hf : FewS st' M) : One base w' sb st' M ∧ Below base w w' :=
  ⟨⟨F', D', h', fun k hk => (t.fF k hk).elim (h2 k) (fun h => by omega), hf⟩, below_of_fr t.fr hb (fun k hk => h2 k hk)⟩
theorem oneCreate (h : One base w sb st N) (hb : base ≤ w.heap.size) (hN : N ≤ 900000) (n : ByteArray) : Calls Tryz.prog 13 #[.pointer (some ⟨sb, 0, none⟩), .string n] w fun e w' => ∃ p, st.files p = none ∧ e = .returned (.int .i64 (createF st n p).2) ∧ One base w' sb (createF st n p).1 (N + 1) ∧ Below base w w' := by
  obtain ⟨F, D, h1, h2, h3⟩ := h
  refine (fsCreate_ok w h1 (by have := h3.b; omega) n).mono ?_
  rintro e w' ⟨p, hp, rfl, F', D', h4, h5⟩
  obtain ⟨h6, h7⟩ := one_turn h1 h2 hb h4 h5 (FewS.rel (k := 0) (nm := n) (to := n) (b := []) (n := 0) h3 ⟨p, hp, rfl⟩)
  exact ⟨p, hp, rfl, h6, h7⟩
theorem oneAppend (h : One base w sb st N) (hb : base ≤ w.heap.size) (hN : N ≤ 900000) (n : ByteArray) (v : Value) (ys : List UInt8) (hv : Bs (fun k => base ≤ k) w v ys) (hys : ys.length ≤ 200) : Calls Tryz.prog 14 #[.pointer (some ⟨sb, 0, none⟩), .string n, v] w fun e w' => e = .returned (.int .i64 (appendF st n ys).2) ∧ One base w' sb (appendF st n ys).1 (N + 1) ∧ Below base w w' := by
  obtain ⟨F, D, h1, h2, h3⟩ := h
  refine (fsAppend_ok w h1 (by have := h3.a; omega) n v ys (bs_base hv (Below.refl _ _) (fun k hk => h2 k hk)) (by omega)).mono ?_
  rintro e w' ⟨rfl, F', D', h4, h5⟩
  obtain ⟨h6, h7⟩ := one_turn h1 h2 hb h4 h5 (FewS.rel (k := 1) (nm := n) (to := n) (b := ys) (n := 0) h3 (by rfl))
  exact ⟨rfl, h6, h7⟩
theorem oneRemove (h : One base w sb st N) (hb : base ≤ w.heap.size) (hN : N ≤ 900000) (n : ByteArray) : Calls Tryz.prog 25 #[.pointer (some ⟨sb, 0, none⟩), .string n] w fun e w' => e = .returned (.int .i64 (removeF st n).2) ∧ One base w' sb (removeF st n).1 (N + 1) ∧ Below base w w' := by
  obtain ⟨F, D, h1, h2, h3⟩ := h
  refine (fsRemove_ok w h1 (by have := h3.b; omega) n).mono ?_
  rintro e w' ⟨rfl, F', D', h4, h5⟩
  obtain ⟨h6, h7⟩ := one_turn h1 h2 hb h4 h5 (FewS.rel (k := 4) (nm := n) (to := n) (b := []) (n := 0) h3 (by rfl))
  exact ⟨rfl, h6, h7⟩
theorem oneFsync (h : One base w sb st N) (hb : base ≤ w.heap.size) (n : ByteArray) : Calls Tryz.prog 15 #[.pointer (some ⟨sb, 0, none⟩), .string n] w fun e w' => e = .returned (.int .i64 (fsyncF st n).2) ∧ One base w' sb (fsyncF st n).1 (N + 1) ∧ Below base w w' := by
  obtain ⟨F, D, h1, h2, h3⟩ := h
  refine (fsFsync_ok w h1 n).mono ?_
  rintro e w' ⟨rfl, F', D', h4, h5⟩
  obtain ⟨h6, h7⟩ := one_turn h1 h2 hb h4 h5 (FewS.rel (k := 5) (nm := n) (to := n) (b := []) (n := 0) h3 (by rfl))
  exact ⟨rfl, h6, h7⟩
theorem oneSync (h : One base w sb st N) (hb : base ≤ w.heap.size) : Calls Tryz.prog 16 #[.pointer (some ⟨sb, 0, none⟩)] w fun e w' => e = .returned (.int .i64 (syncF st).2) ∧ One base w' sb (syncF st).1 (N + 1) ∧ Below base w w' := by
  obtain ⟨F, D, h1, h2, h3⟩ := h
  refine (fsSync_ok w h1).mono ?_
  rintro e w' ⟨rfl, F', D', h4, h5⟩
  obtain ⟨h6, h7⟩ := one_turn h1 h2 hb h4 h5 (FewS.rel (k := 6) (nm := ByteArray.empty) (to := ByteArray.empty) (b := []) (n := 0) h3 (by rfl))
  exact ⟨rfl, h6, h7⟩
theorem oneUp (h : One base w sb st N) (hb : base ≤ w.heap.size) (hN : N ≤ 900000) (n : Int) (a : Option Addr) (c : Nat) (cuts : List Int) (hk : Row (fun k => base ≤ k) w (.slice a cuts.length c) cuts.length 1 (cuts.map (Value.int .i64))) : Calls Tryz.prog 17 #[.pointer (some ⟨sb, 0, none⟩), .int .i64 n, .slice a cuts.length c] w fun e w' => e = .returned (.int .i64 0) ∧ One base w' sb (upF st n cuts) N ∧ Below base w w' := by
  obtain ⟨F, D, h1, h2, h3⟩ := h
  have hs := h3.settle (upN st n)
  refine (fsUp_ok w h1 (by have := h3.b; omega) n (by have := hs.b; omega) (hk.mono (fun k _ hF => h2 k hF))).mono ?_
  rintro e w' ⟨rfl, F', D', h4, h5⟩
  obtain ⟨h6, h7⟩ := one_turn h1 h2 hb h4 h5 (M := N) ⟨by show (settleF st (upN st n)).safe.length ≤ N; have := hs.b; omega, hs.b⟩
  exact ⟨rfl, h6, h7⟩
theorem oneRead (h : One base w sb st N) (n : ByteArray) : Calls Tryz.prog 11 #[.pointer (some ⟨sb, 0, none⟩), .string n] w fun e w' => ∃ a c, e = .returned (.tuple #[.slice a (readF st n).1.length c, .int .i64 (readF st n).2]) ∧ OwnB w' w.heap.size (.slice a (readF st n).1.length c) (readF st n).1 ∧ Below w.heap.size w w' := by
  obtain ⟨F, D, h1, h2, h3⟩ := h
  exact fsRead_ok w h1 n
theorem oneDown (h : One base w sb st N) : Calls Tryz.prog 46 #[.pointer (some ⟨sb, 0, none⟩)] w fun e w' => e = .returned (.bool st.down) ∧ w' = w := by
  obtain ⟨F, D, h1, h2, h3⟩ := h
  exact fsDown_ok w h1
end
/-- A struct of the document's own, beside it. -/
theorem One.beside {base : Nat} {w : World} {sb N : Nat} {st : FSt} (h : One base w sb st N) (hb : base ≤ w.heap.size) : Two base (w.alloc (.cells #[.int .i64 0, .slice none 0 0, .slice none 0 0, .slice none 0 0, .slice none 0 0, .int .i64 0, .bool false, .int .i64 0] 42)) sb w.heap.size st N := by
  obtain ⟨F, D, h1, h2, h3⟩ := h
  have hr := bare_rsr (w := w.alloc (.cells #[.int .i64 0, .slice none 0 0, .slice none 0 0, .slice none 0 0, .slice none 0 0, .int .i64 0, .bool false, .int .i64 0] 42)) (rb := w.heap.size) (st := ⟨0, [], [], [], [], 0, false, 0⟩) ((heap_alloc_new w _).trans rfl) ⟨by decide, by decide, by simp, by simp, by simp, by simp⟩ rfl rfl rfl rfl
  exact ⟨F, D, _, _, _, ⟨h1.below ((Below.refl _ _).alloc (Nat.le_refl _) _), hr, fun k hk e => by have := h1.lt k hk; omega, h2, fun k hk => by omega, h3, ⟨Nat.zero_le _, Nat.zero_le _, Nat.zero_le _⟩⟩⟩
section
variable (w : World) (a0 : Option Addr) (n0 c0 : Nat) (nm : ByteArray) (a2 : Option Addr) (n2 c2 : Nat) (a3 : Option Addr) (n3 c3 : Nat) (k : Int) (a5 : Option Addr) (n5 c5 : Nat)
end
end Go.Proofs.YtgehalfnpbjjcaaGreat
