/- segment's Put and Get of no table, and its Put of no entries. -/
import Derived.Test.YtpomfegcifpfkaaSegSort
import Derived.Test.YtpomfegcifpfkaaTlvPut
import Derived.Test.YtpomfegcifpfkaaCrcBack
namespace Go.Proofs.Ytpomfegcifpfkaa
open Go Go.RowKit Go.Sort
set_option maxHeartbeats 1000000 in
set_option maxRecDepth 100000 in
theorem segPut_nil (v : Value) (w : World) : Calls Try.prog 6 #[.pointer none, v] w fun e w' => e = .returned (.tuple #[.slice none 0 0, .int .i64 18]) ∧ w = w' := by
  go_enter Try.func6, Try.ntmps6
  go_wp2
  go_ret2
  exact ⟨rfl, rfl⟩
theorem Es.nil (S : Nat → Prop) (w : World) : Es S w (.slice none 0 0) [] := ⟨rfl, none, 0, rfl, ⟨Nat.le_refl _, Nat.zero_le _, Nat.zero_le _⟩, fun _ => rfl, .inl rfl⟩
theorem TVsl.nil (S : Nat → Prop) (w : World) : TVsl S w [] (.slice none 0 0) := ⟨[], ⟨rfl, none, 0, rfl, ⟨Nat.le_refl _, Nat.zero_le _, Nat.zero_le _⟩, fun _ => rfl, .inl rfl⟩, by rw [TVch]⟩
theorem putF_empty : putF (.mk 3 0 [] []) = ([3, 0, 0], 0) := by
  unfold putF
  simp [inn, inns, enc, encs, onlyB, numBytes_zero]
def PutPost (t : Nat) (w : World) (bs : List UInt8) (e : Ending) (w' : World) : Prop :=
  ∃ a c, e = .returned (.tuple #[.slice a bs.length c, .int .i64 0]) ∧ OwnB w' w.heap.size (.slice a bs.length c) bs ∧ Tab w' t ∧ Fr (· = t) w w'
set_option maxHeartbeats 2000000 in
set_option maxRecDepth 100000 in
theorem segPut_empty (t : Nat) (w : World) (hT : Tab w t) : Calls Try.prog 6 #[.pointer (some ⟨t, 0, none⟩), .slice none 0 0] w (PutPost t w (sealed [3, 0, 0])) := by
  have ht := hT.lt
  have HT := hid hT
  have hR : ∀ W, Calls Try.prog 11 #[.slice none 0 0] W fun r w' => r = .returned (.bool true) ∧ Grown W w' := fun W => segRight_ok sg (S := fun _ => False) W _ [] (Es.nil _ _)
  have hM : ∀ W, Calls Try.prog 21 #[.slice none 0 0] W fun e w' => ∃ c0 c1 c2 c3, e = .returned (.agg #[c0, c1, c2, c3]) ∧ TVv (fun _ => False) w' (.mk 3 0 [] []) (.agg #[c0, c1, c2, c3]) ∧ Below W.heap.size W w' := fun W => by
    refine (many_ok (S' := fun _ => False) (.slice none 0 0) [] W (TVsl.nil _ _) (by simp)).mono ?_
    rintro e w' ⟨y, rfl, h1, h2⟩
    have h3 := h1 (fun _ => False) (fun _ h => h) (fun _ _ _ h => h)
    obtain ⟨c0, c1, c2, c3, rfl, _⟩ := id h3
    exact ⟨c0, c1, c2, c3, rfl, h3, h2⟩
  have hP : ∀ W x, TVv (fun _ => False) W (.mk 3 0 [] []) x → Calls Try.prog 20 #[x] W fun e w' => ∃ a c, e = .returned (.tuple #[.slice a 3 c, .int .i64 0]) ∧ OwnB w' W.heap.size (.slice a 3 c) [3, 0, 0] ∧ Below W.heap.size W w' := fun W x hx => by
    have := put_ok (S := fun _ => False) _ x W hx
    rw [putF_empty] at this
    refine this.mono ?_
    rintro e w' ⟨v', rfl, ho, hb⟩
    obtain ⟨a, c, rfl, _⟩ := ho.len
    exact ⟨a, c, rfl, ho, hb⟩
  have hS : ∀ W a c, Tab W t → OwnB W (t + 1) (.slice a 3 c) [3, 0, 0] → Calls Try.prog 22 #[.pointer (some ⟨t, 0, none⟩), .slice a 3 c] W fun e w' => ∃ a' c', e = .returned (.slice a' (sealed [3, 0, 0]).length c') ∧ OwnB w' W.heap.size (.slice a' (sealed [3, 0, 0]).length c') (sealed [3, 0, 0]) ∧ Tab w' t ∧ Fr (· = t) W w' := fun W a c hT ho => by
    refine (seal_ok t _ [3, 0, 0] W hT (ho.bs (fun k hk _ e => by omega)) (by simp)).mono ?_
    rintro e w' ⟨v', rfl, ho', h2, h3⟩
    obtain ⟨a', c', rfl, _⟩ := ho'.len
    exact ⟨a', c', rfl, ho', h2, h3⟩
  have HR := hid hR
  have HM := hid hM
  have HP := hid hP
  have HS := hid hS
  clear hR hM hP hS hT
  go_enter Try.func6, Try.ntmps6
  go_wp2_with (go_at_call 11; refine (HR.out _).mono ?_; rintro r w1 ⟨rfl, hg1⟩; have G1 := hid hg1; clear hg1)
  go_loopg [20, 6] 1 (fun kx s20 s6 wr => s20 = .int .i64 0 ∧ s6 = .slice none 0 0 ∧ w1 = wr)
  case atStart => exact ⟨rfl, rfl, rfl⟩
  case round =>
    obtain ⟨rfl, rfl, rfl⟩ := hrel
    go_wp2_with (first | (go_at_call 21; refine (HM.out _).mono ?_; rintro e w2 ⟨c0, c1, c2, c3, rfl, hv2, hb2⟩; have B2 := hid (And.intro hv2 hb2); clear hv2 hb2) | (go_at_call 20; refine (HP.out _ _ B2.out.1).mono ?_; rintro e w3 ⟨a3, q3, rfl, ho3, hb3⟩; have B3 := hid (And.intro ho3 hb3); clear ho3 hb3; have T3 := hid (((HT.out.fr (G1.out.fr (fun _ => False)) id).fr (Fr.of_below B2.out.2 : Fr (fun _ => False) _ _) id).fr (Fr.of_below B3.out.2 : Fr (fun _ => False) _ _) id); have O3 := hid (show OwnB w3 (t + 1) (.slice a3 3 q3) [3, 0, 0] from Own.mono B3.out.1 (by have := G1.out.size; have := B2.out.2.size; omega))) | (go_at_call 22; refine (HS.out _ _ _ T3.out O3.out).mono ?_; rintro e w4 ⟨a4, q4, rfl, ho4, hT4, hF4⟩; have B4 := hid (And.intro ho4 (And.intro hT4 hF4)); clear ho4 hT4 hF4))
    go_ret2
    have z1 := G1.out.size
    have z2 := B2.out.2.size
    have z3 := B3.out.2.size
    refine ⟨a4, q4, rfl, Own.mono B4.out.1 (by omega), B4.out.2.1, ?_⟩
    exact (((G1.out.fr _).trans (Fr.of_below B2.out.2)).trans (Fr.of_below B3.out.2)).trans B4.out.2.2
end Go.Proofs.Ytpomfegcifpfkaa
