/- SimfsSafe: walked. -/
import Derived.Test.YtgehalfnpbjjcaaArmsLaw
import Derived.Test.YtgehalfnpbjjcaaSafeP
namespace Go.Proofs.Ytgehalfnpbjjcaa
open Go Go.RowKit Go.Sort
/-- One file system, in blocks from base on. -/
def One (base : Nat) (w : World) (sb : Nat) (st : FSt) (N : Nat) : Prop := ∃ F D, FSr w F D sb st ∧ (∀ k, D k → base ≤ k) ∧ FewS st N
theorem Two.one {base : Nat} {w : World} {sb rb N : Nat} {st : FSt} (h : Two base w sb rb st N) : One base w sb st N := by
  obtain ⟨Fs, Ds, Gr, Er, rs, hB⟩ := h
  exact ⟨Fs, Ds, hB.fs, hB.b1, hB.few⟩
section
variable {base : Nat} {w w' : World} {sb N : Nat} {st st' : FSt}
theorem One.ok (h : One base w sb st N) : st.Ok := by
  obtain ⟨F, D, h1, _⟩ := h
  exact h1.ok
theorem One.few (h : One base w sb st N) : FewS st N := by
  obtain ⟨F, D, _, _, h3⟩ := h
  exact h3
theorem One.below (h : One base w sb st N) (hb : Below w.heap.size w w') : One base w' sb st N := by
  obtain ⟨F, D, h1, h2, h3⟩ := h
  exact ⟨F, D, h1.below hb, h2, h3⟩
theorem one_turn {F D F' D' : Nat → Prop} (h1 : FSr w F D sb st) (h2 : ∀ k, D k → base ≤ k) (hb : base ≤ w.heap.size) (h' : FSr w' F' D' sb st') (t : Turn F D F' D' w w') {M : Nat} (hf : FewS st' M) : One base w' sb st' M ∧ Below base w w' :=
  ⟨⟨F', D', h', fun k hk => (t.fD k hk).elim (h2 k) (fun h => by omega), hf⟩, below_of_fr t.fr hb (fun k hk => h2 k (h1.fsub hk))⟩
theorem oneCreate (h : One base w sb st N) (hb : base ≤ w.heap.size) (hN : N ≤ 900000) (n : ByteArray) : Calls Try.prog 10 #[.pointer (some ⟨sb, 0, none⟩), .string n] w fun e w' => ∃ p, st.files p = none ∧ e = .returned (.int .i64 (createF st n p).2) ∧ One base w' sb (createF st n p).1 (N + 1) ∧ Below base w w' := by
  obtain ⟨F, D, h1, h2, h3⟩ := h
  refine (fsCreate_ok w h1 (by have := h3.b; omega) n).mono ?_
  rintro e w' ⟨p, hp, rfl, F', D', h4, h5⟩
  obtain ⟨h6, h7⟩ := one_turn h1 h2 hb h4 h5 (FewS.rel (k := 0) (nm := n) (to := n) (b := []) (n := 0) h3 ⟨p, hp, rfl⟩)
  exact ⟨p, hp, rfl, h6, h7⟩
theorem oneAppend (h : One base w sb st N) (hb : base ≤ w.heap.size) (hN : N ≤ 900000) (n : ByteArray) (v : Value) (ys : List UInt8) (hv : Bs (fun k => base ≤ k) w v ys) (hys : ys.length ≤ 200) : Calls Try.prog 14 #[.pointer (some ⟨sb, 0, none⟩), .string n, v] w fun e w' => e = .returned (.int .i64 (appendF st n ys).2) ∧ One base w' sb (appendF st n ys).1 (N + 1) ∧ Below base w w' := by
  obtain ⟨F, D, h1, h2, h3⟩ := h
  refine (fsAppend_ok w h1 (by have := h3.a; omega) n v ys (bs_base hv (Below.refl _ _) (fun k hk => h2 k (h1.fsub hk))) (by omega)).mono ?_
  rintro e w' ⟨rfl, F', D', h4, h5⟩
  obtain ⟨h6, h7⟩ := one_turn h1 h2 hb h4 h5 (FewS.rel (k := 1) (nm := n) (to := n) (b := ys) (n := 0) h3 (by rfl))
  exact ⟨rfl, h6, h7⟩
theorem oneRemove (h : One base w sb st N) (hb : base ≤ w.heap.size) (hN : N ≤ 900000) (n : ByteArray) : Calls Try.prog 15 #[.pointer (some ⟨sb, 0, none⟩), .string n] w fun e w' => e = .returned (.int .i64 (removeF st n).2) ∧ One base w' sb (removeF st n).1 (N + 1) ∧ Below base w w' := by
  obtain ⟨F, D, h1, h2, h3⟩ := h
  refine (fsRemove_ok w h1 (by have := h3.b; omega) n).mono ?_
  rintro e w' ⟨rfl, F', D', h4, h5⟩
  obtain ⟨h6, h7⟩ := one_turn h1 h2 hb h4 h5 (FewS.rel (k := 4) (nm := n) (to := n) (b := []) (n := 0) h3 (by rfl))
  exact ⟨rfl, h6, h7⟩
theorem oneFsync (h : One base w sb st N) (hb : base ≤ w.heap.size) (n : ByteArray) : Calls Try.prog 16 #[.pointer (some ⟨sb, 0, none⟩), .string n] w fun e w' => e = .returned (.int .i64 (fsyncF st n).2) ∧ One base w' sb (fsyncF st n).1 (N + 1) ∧ Below base w w' := by
  obtain ⟨F, D, h1, h2, h3⟩ := h
  refine (fsFsync_ok w h1 n).mono ?_
  rintro e w' ⟨rfl, F', D', h4, h5⟩
  obtain ⟨h6, h7⟩ := one_turn h1 h2 hb h4 h5 (FewS.rel (k := 5) (nm := n) (to := n) (b := []) (n := 0) h3 (by rfl))
  exact ⟨rfl, h6, h7⟩
theorem oneSync (h : One base w sb st N) (hb : base ≤ w.heap.size) : Calls Try.prog 21 #[.pointer (some ⟨sb, 0, none⟩)] w fun e w' => e = .returned (.int .i64 (syncF st).2) ∧ One base w' sb (syncF st).1 (N + 1) ∧ Below base w w' := by
  obtain ⟨F, D, h1, h2, h3⟩ := h
  refine (fsSync_ok w h1).mono ?_
  rintro e w' ⟨rfl, F', D', h4, h5⟩
  obtain ⟨h6, h7⟩ := one_turn h1 h2 hb h4 h5 (FewS.rel (k := 6) (nm := ByteArray.empty) (to := ByteArray.empty) (b := []) (n := 0) h3 (by rfl))
  exact ⟨rfl, h6, h7⟩
theorem oneUp (h : One base w sb st N) (hb : base ≤ w.heap.size) (hN : N ≤ 900000) (n : Int) (a : Option Addr) (c : Nat) (cuts : List Int) (hk : Row (fun k => base ≤ k) w (.slice a cuts.length c) cuts.length 1 (cuts.map (Value.int .i64))) : Calls Try.prog 22 #[.pointer (some ⟨sb, 0, none⟩), .int .i64 n, .slice a cuts.length c] w fun e w' => e = .returned (.int .i64 0) ∧ One base w' sb (upF st n cuts) N ∧ Below base w w' := by
  obtain ⟨F, D, h1, h2, h3⟩ := h
  have hs := h3.settle (upN st n)
  refine (fsUp_ok w h1 (by have := h3.b; omega) n (by have := hs.b; omega) (hk.mono (fun k _ hF => h2 k (h1.fsub hF)))).mono ?_
  rintro e w' ⟨rfl, F', D', h4, h5⟩
  obtain ⟨h6, h7⟩ := one_turn h1 h2 hb h4 h5 (M := N) ⟨by show (settleF st (upN st n)).safe.length ≤ N; have := hs.b; omega, hs.b⟩
  exact ⟨rfl, h6, h7⟩
theorem oneRead (h : One base w sb st N) (n : ByteArray) : Calls Try.prog 12 #[.pointer (some ⟨sb, 0, none⟩), .string n] w fun e w' => ∃ a c, e = .returned (.tuple #[.slice a (readF st n).1.length c, .int .i64 (readF st n).2]) ∧ OwnB w' w.heap.size (.slice a (readF st n).1.length c) (readF st n).1 ∧ Below w.heap.size w w' := by
  obtain ⟨F, D, h1, h2, h3⟩ := h
  exact fsRead_ok w h1 n
theorem oneDown (h : One base w sb st N) : Calls Try.prog 24 #[.pointer (some ⟨sb, 0, none⟩)] w fun e w' => e = .returned (.bool st.down) ∧ w' = w := by
  obtain ⟨F, D, h1, h2, h3⟩ := h
  exact fsDown_ok w h1
end
/-- A struct of the document's own, beside it. -/
theorem One.beside {base : Nat} {w : World} {sb N : Nat} {st : FSt} (h : One base w sb st N) (hb : base ≤ w.heap.size) : Two base (w.alloc (.cells #[.int .i64 0, .slice none 0 0, .slice none 0 0, .slice none 0 0, .slice none 0 0, .int .i64 0, .bool false, .int .i64 0] 52)) sb w.heap.size st N := by
  obtain ⟨F, D, h1, h2, h3⟩ := h
  have hr := bare_rsr (w := w.alloc (.cells #[.int .i64 0, .slice none 0 0, .slice none 0 0, .slice none 0 0, .slice none 0 0, .int .i64 0, .bool false, .int .i64 0] 52)) (rb := w.heap.size) (st := ⟨0, [], [], [], [], 0, false, 0⟩) ((heap_alloc_new w _).trans rfl) ⟨by decide, by decide, by simp, by simp, by simp, by simp⟩ rfl rfl rfl rfl
  exact ⟨F, D, _, _, _, ⟨h1.below ((Below.refl _ _).alloc (Nat.le_refl _) _), hr, fun k hk e => by have := h1.lt k hk; omega, h2, fun k hk => by omega, h3, ⟨Nat.zero_le _, Nat.zero_le _, Nat.zero_le _⟩⟩⟩
section
variable (w : World) (a0 : Option Addr) (n0 c0 : Nat) (nm : ByteArray) (a2 : Option Addr) (n2 c2 : Nat) (a3 : Option Addr) (n3 c3 : Nat) (k : Int) (a5 : Option Addr) (n5 c5 : Nat)
set_option maxRecDepth 100000 in
theorem safe_out1 (HL0 : Hid (Calls Try.prog 18 #[.slice a0 n0 c0, .int .i64 20] w fun e w' => e = .returned (.bool false) ∧ w' = w)) : Calls Try.prog 4 #[.slice a0 n0 c0, .string nm, .slice a2 n2 c2, .slice a3 n3 c3, .int .i64 k, .slice a5 n5 c5] w fun e w' => e = .returned (.bool true) ∧ Below w.heap.size w w' := by
  have HAL := hid (l06alive_ok w)
  go_enter Try.func4, Try.ntmps4
  go_wp2_with (first | (go_at_call 18; refine HL0.out.mono ?_; rintro e w2 ⟨rfl, rfl⟩) | (go_at_call 6; refine HAL.out.mono ?_; rintro e w1 ⟨rfl, hb1⟩; have B1 := hid hb1; clear hb1))
  go_ret
  exact ⟨rfl, B1.out⟩
set_option maxRecDepth 100000 in
theorem safe_out2 (l : List OpV) (HL0 : Hid (Calls Try.prog 18 #[.slice a0 n0 c0, .int .i64 20] w fun e w' => LightR l w e w')) (HL3 : Hid (Calls Try.prog 18 #[.slice a3 n3 c3, .int .i64 20] w fun e w' => e = .returned (.bool false) ∧ w' = w)) : Calls Try.prog 4 #[.slice a0 n0 c0, .string nm, .slice a2 n2 c2, .slice a3 n3 c3, .int .i64 k, .slice a5 n5 c5] w fun e w' => e = .returned (.bool true) ∧ Below w.heap.size w w' := by
  have HAL := hid l06alive_ok
  go_enter Try.func4, Try.ntmps4
  go_wp2_with fail
  refine HL0.out.mono ?_
  rintro e w1 ⟨b, _, rfl, rfl⟩
  clear HL0
  cases b with
  | false =>
    go_wp2_with (go_at_call 6; refine (HAL.out _).mono ?_; rintro e w2 ⟨rfl, hb1⟩; have B1 := hid hb1; clear hb1)
    go_ret
    exact ⟨rfl, B1.out⟩
  | true =>
    go_wp2_with (first | (go_at_call 18; refine HL3.out.mono ?_; rintro e w2 ⟨rfl, rfl⟩) | (go_at_call 6; refine (HAL.out _).mono ?_; rintro e w3 ⟨rfl, hb1⟩; have B1 := hid hb1; clear hb1))
    go_ret
    exact ⟨rfl, B1.out⟩
set_option maxHeartbeats 1000000 in
set_option maxRecDepth 100000 in
theorem safe_out3 (l more : List OpV) (HL0 : Hid (Calls Try.prog 18 #[.slice a0 n0 c0, .int .i64 20] w fun e w' => LightR l w e w')) (HL3 : Hid (Calls Try.prog 18 #[.slice a3 n3 c3, .int .i64 20] w fun e w' => LightR more w e w')) (h : 200 < n2 ∨ 60 < n5 ∨ nameR nm = false) : Calls Try.prog 4 #[.slice a0 n0 c0, .string nm, .slice a2 n2 c2, .slice a3 n3 c3, .int .i64 k, .slice a5 n5 c5] w fun e w' => e = .returned (.bool true) ∧ Below w.heap.size w w' := by
  have HAL := hid l06alive_ok
  have HNA := hid (fun W => fsName_ok nm W)
  have H := hid h
  clear h
  go_enter Try.func4, Try.ntmps4
  go_wp2_with fail
  refine HL0.out.mono ?_
  rintro e w1 ⟨b, _, rfl, rfl⟩
  clear HL0
  cases b with
  | false =>
    go_wp2_with (go_at_call 6; refine (HAL.out _).mono ?_; rintro e w2 ⟨rfl, hb1⟩; have B1 := hid hb1; clear hb1)
    go_ret
    exact ⟨rfl, B1.out⟩
  | true =>
    go_wp2_with fail
    refine HL3.out.mono ?_
    rintro e w1 ⟨b, _, rfl, rfl⟩
    clear HL3
    cases b with
    | false =>
      go_wp2_with (go_at_call 6; refine (HAL.out _).mono ?_; rintro e w2 ⟨rfl, hb1⟩; have B1 := hid hb1; clear hb1)
      go_ret
      exact ⟨rfl, B1.out⟩
    | true =>
      by_cases t1 : (200 : Int) < (n2 : Int)
      · go_wp2_with (go_at_call 6; refine (HAL.out _).mono ?_; rintro e w2 ⟨rfl, hb1⟩; have B1 := hid hb1; clear hb1)
        go_ret
        exact ⟨rfl, B1.out⟩
      · by_cases t2 : (60 : Int) < (n5 : Int)
        · go_wp2_with (go_at_call 6; refine (HAL.out _).mono ?_; rintro e w2 ⟨rfl, hb1⟩; have B1 := hid hb1; clear hb1)
          go_ret
          exact ⟨rfl, B1.out⟩
        · have hn : nameR nm = false := by
            rcases H.out with h | h | h
            · omega
            · omega
            · exact h
          rw [hn] at HNA
          clear hn
          go_wp2_with (first | (go_at_call 8; refine (HNA.out _).mono ?_; rintro e w3 ⟨rfl, hb3⟩; have B3 := hid hb3; clear hb3) | (go_at_call 6; refine (HAL.out _).mono ?_; rintro e w2 ⟨rfl, hb1⟩; have B1 := hid hb1; clear hb1))
          go_ret
          exact ⟨rfl, Below.below B3.out B1.out⟩
end
set_option maxHeartbeats 2000000 in
set_option maxRecDepth 100000 in
theorem safe_main (w : World) (a0 : Option Addr) (c0 : Nat) (l : List OpV) (nm : ByteArray) (a2 : Option Addr) (c2 : Nat) (b : List UInt8) (a3 : Option Addr) (c3 : Nat) (more : List OpV) (k : Int) (a5 : Option Addr) (c5 : Nat) (cuts : List Int)
    (hr0 : Row (fun _ => False) w (.slice a0 l.length c0) l.length 7 (l.flatMap opC)) (hG0 : ∀ o ∈ l, OpG w o) (hl0 : l.length ≤ 20) (hr3 : Row (fun _ => False) w (.slice a3 more.length c3) more.length 7 (more.flatMap opC)) (hG3 : ∀ o ∈ more, OpG w o) (hl3 : more.length ≤ 20)
    (hb : Bs (fun _ => False) w (.slice a2 b.length c2) b) (hbl : b.length ≤ 200) (hcu : Row (fun _ => False) w (.slice a5 cuts.length c5) cuts.length 1 (cuts.map (Value.int .i64))) (hcl : cuts.length ≤ 60) (hn : nameR nm = true)
    (HL0 : Hid (Calls Try.prog 18 #[.slice a0 l.length c0, .int .i64 20] w fun e w' => LightR l w e w')) (HL3 : Hid (Calls Try.prog 18 #[.slice a3 more.length c3, .int .i64 20] w fun e w' => LightR more w e w')) :
    Calls Try.prog 4 #[.slice a0 l.length c0, .string nm, .slice a2 b.length c2, .slice a3 more.length c3, .int .i64 k, .slice a5 cuts.length c5] w fun e w' => e = .returned (.bool true) ∧ Below w.heap.size w w' := by
  have HAL := hid l06alive_ok
  have HNA := hid (fun W => fsName_ok nm W)
  rw [hn] at HNA
  have HN := hid hn
  have HV0 := hid hr0
  have HV3 := hid hr3
  have HG0 := hid hG0
  have HG3 := hid hG3
  have HBB := hid (show Bs (fun k => w.heap.size ≤ k) w (.slice a2 b.length c2) b from hb.mono (fun k hk h => by omega))
  have HCU := hid (show Row (fun k => w.heap.size ≤ k) w (.slice a5 cuts.length c5) cuts.length 1 (cuts.map (Value.int .i64)) from hcu.mono (fun k hk h => by omega))
  have g1 : ¬ (200 : Int) < (b.length : Int) := by omega
  have g2 : ¬ (60 : Int) < (cuts.length : Int) := by omega
  clear hr0 hr3 hG0 hG3 hb hcu hn
  go_enter Try.func4, Try.ntmps4
  go_wp2_with fail
  refine HL0.out.mono ?_
  rintro e w1 ⟨bl, hbl0, rfl, rfl⟩
  clear HL0
  cases bl with
  | false =>
    clear hbl0
    go_wp2_with (go_at_call 6; refine (HAL.out _).mono ?_; rintro e w2 ⟨rfl, hb1⟩; have B1 := hid hb1; clear hb1)
    go_ret
    exact ⟨rfl, B1.out⟩
  | true =>
  have HLO := hid (hbl0 rfl)
  clear hbl0
  go_wp2_with fail
  refine HL3.out.mono ?_
  rintro e w1 ⟨bl, hbl3, rfl, rfl⟩
  clear HL3
  cases bl with
  | false =>
    clear hbl3
    go_wp2_with (go_at_call 6; refine (HAL.out _).mono ?_; rintro e w2 ⟨rfl, hb1⟩; have B1 := hid hb1; clear hb1)
    go_ret
    exact ⟨rfl, B1.out⟩
  | true =>
  have HLM := hid (hbl3 rfl)
  clear hbl3
  go_wp2_with (go_at_call 8; refine (HNA.out _).mono ?_; rintro e w0 ⟨rfl, hb0⟩; have B0 := hid hb0; clear hb0)
  have HNEW := hid (fsNew_ok w0 99000 (by decide) (by decide))
  refine HNEW.out.mono ?_
  rintro e w2 ⟨sb, rfl, F2, hs2, hF2, hb2⟩
  have H2 := hid hs2
  have G2 := hid hF2
  have B2 := hid (Below.below B0.out hb2)
  have HRN := hid (r06New_ok w2 99000 (by decide) (by decide))
  clear hs2 hF2 hb2 HNEW HNA
  go_wp2_with fail
  refine HRN.out.mono ?_
  rintro e w3 ⟨rb, rfl, G3, hs3, hG3', hb3⟩
  have hB3 : Two w1.heap.size w3 sb rb (newF 99000) 3 := ⟨_, _, _, _, _, ⟨H2.out.below hb3, hs3, fun k hk hE => by have := H2.out.lt k hk; have := hG3' k hE; omega, fun k hk => by have := G2.out k hk; have := B0.out.size; omega, fun k hk => by have := hG3' k hk; have := B2.out.size; omega, ⟨by simp [newF], by simp [newF]⟩, ⟨by simp [rnewF], by simp [rnewF], by simp [rnewF]⟩⟩⟩
  have HB3 := hid hB3
  have BL3 := hid (show Below w1.heap.size w1 w3 from Below.below B2.out hb3)
  clear hs3 hG3' hb3 HRN hB3
  go_wp2
  go_loopg [17] l.length (fun kx s17 wr => ∃ (i : Nat) (st : FSt), s17 = .int .i64 i ∧ i ≤ l.length ∧ l.length - i ≤ kx ∧ Hid (UpI st i) ∧ Hid (Two w1.heap.size wr sb rb st (3 * i + 3)) ∧ Hid (Below w1.heap.size w1 wr))
  case atStart => exact ⟨0, _, rfl, Nat.zero_le _, Nat.le_refl _, hid ⟨rfl, rfl, rfl, Nat.le_refl _, fun p x h => by cases h⟩, HB3, BL3⟩
  case round =>
    obtain ⟨i, st, rfl, hi, hk, HI, HT, HBL⟩ := hrel
    by_cases hlt : i < l.length
    · have hlt' : (i : Int) < (l.length : Int) := by omega
      obtain ⟨o, ho⟩ : ∃ o, l[i]? = some o := ⟨_, List.getElem?_eq_getElem hlt⟩
      obtain ⟨bb, off, rfl, hbb, _, hc1, hc2, hcell⟩ := (HV0.out.fr (Fr.of_below HBL.out : Fr (fun _ => False) w1 wr) (fun _ _ h => h.elim)).elem opC_len (by decide) ho
      have k0 : wr.cell? ⟨bb, off + i * 7, none⟩ = some (.int .i64 o.kind) := hcell 0 _ rfl
      have k1 : wr.cell? ⟨bb, off + i * 7 + 1, none⟩ = some (.string o.name) := hcell 1 _ rfl
      have k2 : wr.cell? ⟨bb, off + i * 7 + 2, none⟩ = some (.string o.to) := hcell 2 _ rfl
      have k3 : wr.cell? ⟨bb, off + i * 7 + 3, none⟩ = some (.slice o.ba o.bn o.bc) := hcell 3 _ rfl
      have k4 : wr.cell? ⟨bb, off + i * 7 + 4, none⟩ = some (.int .i64 o.n) := hcell 4 _ rfl
      have k5 : wr.cell? ⟨bb, off + i * 7 + 5, none⟩ = some (bcell o.by_) := hcell 5 _ rfl
      have k6 : wr.cell? ⟨bb, off + i * 7 + 6, none⟩ = some (.slice o.ca o.cn o.cc) := hcell 6 _ rfl
      have hmem := List.mem_of_getElem? ho
      clear hcell ho
      by_cases h7 : o.kind < 7
      · have t7 : decide (o.kind < 7) = true := decide_eq_true h7
        have HOL := hid (HLO.out o hmem)
        have HSTEP := hid (step_ok HT.out HBL.out (by omega) o (by omega) (HG0.out o hmem) HOL.out)
        have H7 := hid h7
        clear hmem h7
        go_wp2_with fail
        refine HSTEP.out.mono ?_
        rintro e w7 hq
        obtain ⟨ys, bq, st', rfl, hyl, _, hrel, htwo, hbel⟩ := hq
        have HI7 := hid (HI.out.rel hrel H7.out (by have := HOL.out.c; omega))
        have HT7 := hid htwo
        have HBL7 := hid hbel
        clear hrel htwo hbel hyl HSTEP
        go_wp2_with fail
        go_roundg (l.length - (i + 1))
        case measure => exact meas_ltL hk hlt
        case rel => exact ⟨i + 1, st', by go_num, hlt, Nat.le_refl _, HI7, (by rw [show 3 * (i + 1) + 3 = 3 * i + 3 + 3 by omega]; exact HT7), HBL7⟩
      · have t7 : decide (o.kind < 7) = false := decide_eq_false h7
        clear h7
        go_wp2_with fail
        go_roundg (l.length - (i + 1))
        case measure => exact meas_ltL hk hlt
        case rel =>
          obtain ⟨Fs, Ds, Gr, Er, rs, hB⟩ := HT.out
          exact ⟨i + 1, st, by go_num, hlt, Nat.le_refl _, hid (HI.out.up (Nat.le_succ i)), hid ⟨_, _, _, _, _, ⟨hB.fs, hB.rf, hB.apart, hB.b1, hB.b2, hB.few.up (by omega), hB.fewr.up (by omega)⟩⟩, HBL⟩
    · obtain rfl : i = l.length := by omega
      have HO := hid HT.out.one
      have HZ := hid HBL.out.size
      have HRM := hid (oneRemove HO.out HZ.out (by omega) nm)
      obtain ⟨hu1, hg1⟩ := remove_gone HI.out HN.out
      have HU1 := hid hu1
      have HG1 := hid hg1
      clear HT hu1 hg1
      go_wp2_with fail
      refine HRM.out.mono ?_
      rintro e w4 ⟨rfl, ho4, hb4⟩
      have HO4 := hid ho4
      have BL4 := hid (Below.trans HBL.out hb4)
      clear HRM ho4 hb4
      generalize (removeF st nm).1 = st1 at *
      generalize (removeF st nm).2 = z1 at *
      have HCR := hid (oneCreate HO4.out BL4.out.size (by omega) nm)
      go_wp2_with fail
      refine HCR.out.mono ?_
      rintro e w5 ⟨p, hp, rfl, ho5, hb5⟩
      obtain ⟨r1, r2, r3, r4, r5⟩ := kept_made (p := p) HU1.out HO4.out.ok (by omega) HN.out HG1.out hbl hp
      have HO5 := hid ho5
      have BL5 := hid (Below.trans BL4.out hb5)
      have HK := hid r5
      rw [r1]
      clear HCR ho5 hb5 r1 r5 hp
      generalize (createF st1 nm p).1 = st2 at *
      have HAP := hid (oneAppend HO5.out BL5.out.size (by omega) nm (.slice a2 b.length c2) b (bs_base HBB.out BL5.out (fun _ h => h)) hbl)
      rw [r2] at HAP
      clear r2
      generalize (appendF st2 nm b).1 = st3 at *
      go_wp2_with fail
      refine HAP.out.mono ?_
      rintro e w6 ⟨rfl, ho6, hb6⟩
      have HO6 := hid ho6
      have BL6 := hid (Below.trans BL5.out hb6)
      clear HAP ho6 hb6
      have HFS := hid (oneFsync HO6.out BL6.out.size nm)
      rw [r3] at HFS
      clear r3
      generalize (fsyncF st3 nm).1 = st4 at *
      go_wp2_with fail
      refine HFS.out.mono ?_
      rintro e w7 ⟨rfl, ho7, hb7⟩
      have HO7 := hid ho7
      have BL7 := hid (Below.trans BL6.out hb7)
      clear HFS ho7 hb7
      have HSY := hid (oneSync HO7.out BL7.out.size)
      rw [r4] at HSY
      clear r4
      generalize (syncF st4).1 = st5 at *
      go_wp2_with fail
      refine HSY.out.mono ?_
      rintro e w8 ⟨rfl, ho8, hb8⟩
      have HO8 := hid ho8
      have BL8 := hid (Below.trans BL7.out hb8)
      clear HSY ho8 hb8
      go_wp2
      go_loopg [18] more.length (fun kx s18 wr => ∃ (i : Nat) (st : FSt), s18 = .int .i64 i ∧ i ≤ more.length ∧ more.length - i ≤ kx ∧ Hid (Kept st nm p b) ∧ Hid (One w1.heap.size wr sb st (3 * i + 100)) ∧ Hid (Below w1.heap.size w1 wr))
      case atStart =>
        obtain ⟨F, D, q1, q2, q3⟩ := HO8.out
        exact ⟨0, _, rfl, Nat.zero_le _, Nat.le_refl _, HK, hid ⟨F, D, q1, q2, q3.up (by omega)⟩, BL8⟩
      case round =>
        clear HI HO HBL HU1 HG1 HO4 HO5 HO6 HO7 HO8 HK
        obtain ⟨i, st, rfl, hi, hk, HKK, HOO, HBM⟩ := hrel
        by_cases hlt : i < more.length
        · have hlt' : (i : Int) < (more.length : Int) := by omega
          obtain ⟨o, ho⟩ : ∃ o, more[i]? = some o := ⟨_, List.getElem?_eq_getElem hlt⟩
          obtain ⟨bb, off, rfl, hbb, _, hc1, hc2, hcell⟩ := (HV3.out.fr (Fr.of_below HBM.out : Fr (fun _ => False) w1 wr) (fun _ _ h => h.elim)).elem opC_len (by decide) ho
          have k0 : wr.cell? ⟨bb, off + i * 7, none⟩ = some (.int .i64 o.kind) := hcell 0 _ rfl
          have k1 : wr.cell? ⟨bb, off + i * 7 + 1, none⟩ = some (.string o.name) := hcell 1 _ rfl
          have k2 : wr.cell? ⟨bb, off + i * 7 + 2, none⟩ = some (.string o.to) := hcell 2 _ rfl
          have k3 : wr.cell? ⟨bb, off + i * 7 + 3, none⟩ = some (.slice o.ba o.bn o.bc) := hcell 3 _ rfl
          have k4 : wr.cell? ⟨bb, off + i * 7 + 4, none⟩ = some (.int .i64 o.n) := hcell 4 _ rfl
          have k5 : wr.cell? ⟨bb, off + i * 7 + 5, none⟩ = some (bcell o.by_) := hcell 5 _ rfl
          have k6 : wr.cell? ⟨bb, off + i * 7 + 6, none⟩ = some (.slice o.ca o.cn o.cc) := hcell 6 _ rfl
          have hmem := List.mem_of_getElem? ho
          have SAME := hid (show One w1.heap.size wr sb st (3 * (i + 1) + 100) from by
            obtain ⟨F, D, q1, q2, q3⟩ := HOO.out
            exact ⟨F, D, q1, q2, q3.up (by omega)⟩)
          clear hcell ho
          by_cases hnm : o.name = nm
          · have t1 : (o.name.toList == nm.toList) = true := by rw [str_eq, decide_eq_true hnm]
            clear hnm
            go_wp2_with fail
            go_roundg (more.length - (i + 1))
            case measure => exact meas_ltL hk hlt
            case rel => exact ⟨i + 1, st, by go_num, hlt, Nat.le_refl _, HKK, SAME, HBM⟩
          have t1 : (o.name.toList == nm.toList) = false := by rw [str_eq, decide_eq_false hnm]
          by_cases hto : o.to = nm
          · have t2 : (o.to.toList == nm.toList) = true := by rw [str_eq, decide_eq_true hto]
            clear hnm hto
            go_wp2_with fail
            go_roundg (more.length - (i + 1))
            case measure => exact meas_ltL hk hlt
            case rel => exact ⟨i + 1, st, by go_num, hlt, Nat.le_refl _, HKK, SAME, HBM⟩
          have t2 : (o.to.toList == nm.toList) = false := by rw [str_eq, decide_eq_false hto]
          by_cases h8 : o.kind < 8
          · have t8 : decide (o.kind < 8) = true := decide_eq_true h8
            have HTT := hid (HOO.out.beside HBM.out.size)
            have hba : Below w1.heap.size w1 (wr.alloc (.cells #[.int .i64 0, .slice none 0 0, .slice none 0 0, .slice none 0 0, .slice none 0 0, .int .i64 0, .bool false, .int .i64 0] 52)) := HBM.out.alloc HBM.out.size _
            have HSTEP := hid (step_ok HTT.out hba (by omega) o h8 (HG3.out o hmem) (HLM.out o hmem))
            have HNM := hid hnm
            have HTO := hid hto
            clear hmem h8 hba hnm hto
            go_wp2_with fail
            refine HSTEP.out.mono ?_
            rintro e w9 hq
            obtain ⟨ys, bq, st', rfl, hyl, _, hrel, htwo, hbel⟩ := hq
            have HK9 := hid (HKK.out.rel HOO.out.ok HN.out hrel HNM.out HTO.out)
            have HT9 := hid htwo.one
            have HBL9 := hid hbel
            clear hrel htwo hbel hyl HSTEP HTT
            go_wp2_with fail
            go_roundg (more.length - (i + 1))
            case measure => exact meas_ltL hk hlt
            case rel => exact ⟨i + 1, st', by go_num, hlt, Nat.le_refl _, HK9, (by rw [show 3 * (i + 1) + 100 = 3 * i + 100 + 3 by omega]; exact HT9), HBL9⟩
          · have t8 : decide (o.kind < 8) = false := decide_eq_false h8
            clear hnm hto h8
            go_wp2_with fail
            go_roundg (more.length - (i + 1))
            case measure => exact meas_ltL hk hlt
            case rel => exact ⟨i + 1, st, by go_num, hlt, Nat.le_refl _, HKK, SAME, HBM⟩
        · obtain rfl : i = more.length := by omega
          obtain ⟨e1, e2⟩ := kept_up HKK.out HOO.out.ok HN.out k cuts
          have HUP := hid (oneUp HOO.out HBM.out.size (by omega) k a5 c5 cuts (HCU.out.fr (show Fr (fun k => w1.heap.size ≤ k) w1 wr from ⟨HBM.out.os, HBM.out.tape, HBM.out.output, HBM.out.size, fun i _ hi => HBM.out.block i (Nat.lt_of_not_le hi)⟩) (fun _ _ h => h)))
          have E1 := hid e1
          have E2 := hid e2
          clear e1 e2
          generalize upF st k cuts = st9 at *
          go_wp2_with fail
          refine HUP.out.mono ?_
          rintro e wa ⟨rfl, hoa, hba⟩
          have HOA := hid hoa
          have BLA := hid (Below.trans HBM.out hba)
          clear HUP hoa hba
          have HRD := hid (oneRead HOA.out nm)
          rw [E1.out] at HRD
          go_wp2_with fail
          refine HRD.out.mono ?_
          rintro e wb ⟨ra, rc, rfl, hob, hbb⟩
          have HOB := hid (HOA.out.below hbb)
          have BLB := hid (Below.trans BLA.out (hbb.mono BLA.out.size))
          have HX := hid hob
          clear HRD hob hbb
          have hv1 : Bs (fun _ => False) wb (.slice ra b.length rc) b := OwnB.bs HX.out (fun _ _ _ => id)
          have hv2 : Bs (fun k => w1.heap.size ≤ k) wb (.slice a2 b.length c2) b := bs_base HBB.out BLB.out (fun _ h => h)
          have HBY := hid (refBytes_ok (.slice ra b.length rc) (.slice a2 b.length c2) b b wb hv1 hv2)
          rw [decide_eq_true (rfl : b = b)] at HBY
          clear hv1 hv2
          go_wp2_with fail
          refine HBY.out.mono ?_
          rintro e wc ⟨rfl, hbc⟩
          have HOC := hid (HOB.out.below hbc)
          have BLC := hid (Below.trans BLB.out (hbc.mono BLB.out.size))
          clear hbc HBY
          have HDN := hid (oneDown HOC.out)
          rw [E2.out] at HDN
          go_wp2_with (first | (go_at_call 24; refine HDN.out.mono ?_; rintro e wd ⟨rfl, rfl⟩) | (go_at_call 6; refine (HAL.out _).mono ?_; rintro e we ⟨rfl, hbe⟩; have BLE := hid hbe; clear hbe))
          go_ret
          exact ⟨rfl, Below.trans BLC.out (BLE.out.mono BLC.out.size)⟩
end Go.Proofs.Ytgehalfnpbjjcaa
