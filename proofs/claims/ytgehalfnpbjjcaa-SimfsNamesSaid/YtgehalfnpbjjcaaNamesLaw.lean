/- simfs: which names are right, and that all calls refuse others: walked. -/
import Derived.Test.YtgehalfnpbjjcaaAlive06
import Derived.Test.YtgehalfnpbjjcaaR06A
import Derived.Test.YtgehalfnpbjjcaaSimF
import Derived.Test.YtgehalfnpbjjcaaSimK
namespace Go.Proofs.Ytgehalfnpbjjcaa
open Go Go.RowKit Go.Sort
theorem names_long (w : World) (s o : ByteArray) (h : 100 < s.size ∨ 100 < o.size) : Calls Try.prog 3 #[.string s, .string o] w fun e w' => e = .returned (.bool true) ∧ Below w.heap.size w w' := by
  have HAL := hid (l06alive_ok w)
  by_cases h1 : 100 < s.size
  · have g1 : (100 : Int) < (s.size : Int) := by omega
    go_enter Try.func3, Try.ntmps3
    go_wp2_with (go_at_call 6; refine HAL.out.mono ?_; rintro e w1 ⟨rfl, hb1⟩; have B1 := hid hb1; clear hb1)
    go_ret
    exact ⟨rfl, B1.out⟩
  · have h2 : 100 < o.size := h.resolve_left h1
    have g1 : ¬ (100 : Int) < (s.size : Int) := by omega
    have g2 : (100 : Int) < (o.size : Int) := by omega
    go_enter Try.func3, Try.ntmps3
    go_wp2_with (go_at_call 6; refine HAL.out.mono ?_; rintro e w1 ⟨rfl, hb1⟩; have B1 := hid hb1; clear hb1)
    go_ret
    exact ⟨rfl, B1.out⟩
theorem find_new {n : ByteArray} (h : nameR n = true) : findF (newF 100) n = (5, none) := by
  unfold findF
  rw [h]
  rfl
theorem find_bad {n : ByteArray} {st : FSt} (hd : st.down = false) (h : nameR n = false) : findF st n = (10, none) := by
  unfold findF
  rw [h, hd]
  rfl
theorem named_bad {n : ByteArray} {st : FSt} (hd : st.down = false) (h : nameR n = false) : namedF st n = 10 := by
  unfold namedF
  rw [h, hd]
  rfl
theorem create_first {n : ByteArray} (h : nameR n = true) (p : Nat) : (createF (newF 100) n p).2 = 0 ∧ (createF (newF 100) n p).1.down = false ∧ findF (createF (newF 100) n p).1 n = (0, some p) ∧ (createF (newF 100) n p).1.chg.length = 1 := by
  have h5 : (findF (newF 100) n).1 = 5 := by rw [find_new h]
  unfold createF
  rw [if_pos h5, goF_free rfl]
  refine ⟨rfl, rfl, ?_, rfl⟩
  show findF (chgF { tick (newF 100) with files := putFil (tick (newF 100)).files p ⟨[], 0⟩ } ⟨n, ByteArray.empty, some p⟩) n = _
  have hg : dget (chgF { tick (newF 100) with files := putFil (tick (newF 100)).files p ⟨[], 0⟩ } ⟨n, ByteArray.empty, some p⟩).seen n = some p := by
    show dget (doF [] ⟨n, ByteArray.empty, some p⟩) n = some p
    unfold doF
    exact dget_put_self (by simp) n p
  unfold findF
  rw [hg, h]
  rfl
theorem create_again {n : ByteArray} {st : FSt} {p q : Nat} (h : findF st n = (0, some p)) : createF st n q = (st, 6) := by
  unfold createF
  rw [h]
  rfl
theorem rename_bad {n m : ByteArray} {st : FSt} (hd : st.down = false) (hn : nameR n = true) (hm : nameR m = false) : renameF st n m = (st, 10) := by
  unfold renameF
  rw [named_bad hd hm]
  have h1 : namedF st n = 0 := by unfold namedF; rw [hn, hd]; rfl
  rw [h1]
  rfl
set_option maxHeartbeats 1000000 in
set_option maxRecDepth 100000 in
theorem names_right (w : World) (s o : ByteArray) (h1 : s.size ≤ 100) (h2 : o.size ≤ 100) (hs : nameR s = true) : Calls Try.prog 3 #[.string s, .string o] w fun e w' => e = .returned (.bool true) ∧ Below w.heap.size w w' := by
  have g1 : ¬ (100 : Int) < (s.size : Int) := by omega
  have g2 : ¬ (100 : Int) < (o.size : Int) := by omega
  have HNEW := hid (fsNew_ok w 100 (by decide) (by decide))
  have HN := hid (fun W => fsName_ok s W)
  have HR := hid (fun W => r06Name_ok s W)
  have HRO := hid (fun W => r06Name_ok o W)
  rw [hs] at HN HR
  have HAL := hid l06alive_ok
  have CF := hid (fun p => create_first hs p)
  have HS := hid hs
  clear hs
  go_enter Try.func3, Try.ntmps3
  go_wp2_with fail
  refine HNEW.out.mono ?_
  rintro e w1 ⟨sb, rfl, F1, hs1, hF1, hb1⟩
  have H1 := hid hs1
  have B1 := hid hb1
  have G1 := hid hF1
  clear hs1 hb1 hF1
  go_wp2_with (first | (go_at_call 8; refine (HN.out _).mono ?_; rintro e w2 ⟨rfl, hb2⟩; have B2 := hid hb2; clear hb2) | (go_at_call 9; refine (HR.out _).mono ?_; rintro e w3 ⟨rfl, rfl⟩))
  have HCR := hid (fsCreate_ok _ (H1.out.below B2.out) (Nat.zero_le _) s)
  refine HCR.out.mono ?_
  rintro e w4 ⟨p, _, rfl, F2, D2, hs2, ht2⟩
  obtain ⟨r1, r2, r3, r4⟩ := CF.out p
  rw [r1]
  generalize (createF (newF 100) s p).1 = st2 at *
  have H2 := hid hs2
  have T2 := hid ht2
  have R2 := hid r2
  have R3 := hid r3
  have R4 := hid r4
  clear hs2 ht2 HCR r1 r2 r3 r4 CF
  go_wp2_with fail
  have HCR := hid (fsCreate_ok _ H2.out (by rw [R4.out]; decide) s)
  refine HCR.out.mono ?_
  rintro e w5 ⟨q, _, rfl, F3, D3, hs3, ht3⟩
  rw [create_again R3.out] at hs3 ⊢
  have H3 := hid hs3
  have T3 := hid ht3
  clear hs3 ht3 HCR
  have g3 : ∀ k, F3 k → w.heap.size ≤ k := fun k h => by
    have s1 := B1.out.size
    have s2 := B2.out.size
    have s3 := T2.out.fr.size
    exact (T3.out.fF k h).elim (fun h => (T2.out.fF k h).elim (G1.out k) (fun h => by omega)) (fun h => by omega)
  have no : ∀ {G : Nat → Prop}, (∀ k, G k → w.heap.size ≤ k) → ∀ i, i < w.heap.size → ¬ G i := fun h i hi hG => by have := h i hG; omega
  have b4 := Below.fr (Below.below B1.out B2.out) T2.out.fr (no G1.out)
  have g2 : ∀ k, F2 k → w.heap.size ≤ k := fun k h => by
    have s1 := B1.out.size
    have s2 := B2.out.size
    exact (T2.out.fF k h).elim (G1.out k) (fun h => by omega)
  have b5 := Below.fr b4 T3.out.fr (no g2)
  have B5 := hid b5
  have G3 := hid g3
  have NO := hid (no g3)
  clear b4 b5 g2 g3 no B1 B2 T2 T3 G1 H1 H2
  cases ho : nameR o with
  | true =>
    rw [ho] at HRO
    go_wp2_with (first | (go_at_call 9; refine (HRO.out _).mono ?_; rintro e w6 ⟨rfl, rfl⟩) | (go_at_call 6; refine (HAL.out _).mono ?_; rintro e w7 ⟨rfl, hb7⟩; have B7 := hid hb7; clear hb7))
    go_ret
    exact ⟨rfl, Below.below B5.out B7.out⟩
  | false =>
    rw [ho] at HRO
    have HRN := hid (fsRename_ok _ H3.out (by rw [R4.out]; decide) s o)
    rw [rename_bad R2.out HS.out ho] at HRN
    go_wp2_with (first | (go_at_call 9; refine (HRO.out _).mono ?_; rintro e w6 ⟨rfl, rfl⟩) | (go_at_call 11; refine HRN.out.mono ?_; rintro e w8 ⟨rfl, F4, D4, _, ht4⟩; have T4 := hid ht4; clear ht4) | (go_at_call 6; refine (HAL.out _).mono ?_; rintro e w7 ⟨rfl, hb7⟩; have B7 := hid hb7; clear hb7))
    go_ret
    exact ⟨rfl, Below.below (Below.fr B5.out T4.out.fr NO.out) B7.out⟩
set_option maxHeartbeats 1000000 in
set_option maxRecDepth 100000 in
theorem names_wrong (w : World) (s o : ByteArray) (h1 : s.size ≤ 100) (h2 : o.size ≤ 100) (hs : nameR s = false) : Calls Try.prog 3 #[.string s, .string o] w fun e w' => e = .returned (.bool true) ∧ Below w.heap.size w w' := by
  have g1 : ¬ (100 : Int) < (s.size : Int) := by omega
  have g2 : ¬ (100 : Int) < (o.size : Int) := by omega
  have HNEW := hid (fsNew_ok w 100 (by decide) (by decide))
  have HN := hid (fun W => fsName_ok s W)
  have HR := hid (fun W => r06Name_ok s W)
  rw [hs] at HN HR
  have HAL := hid l06alive_ok
  have hf := find_bad (st := newF 100) rfl hs
  have HF := hid hf
  have e1 : ∀ p, createF (newF 100) s p = (newF 100, 10) := fun p => by unfold createF; rw [hf]; rfl
  have e2 : appendF (newF 100) s [] = (newF 100, 10) := by unfold appendF; rw [hf]; rfl
  have e3 : readF (newF 100) s = ([], 10) := by unfold readF; rw [hf]; rfl
  have e4 : renameF (newF 100) s nA = (newF 100, 10) := by unfold renameF; rw [named_bad rfl hs]; rfl
  have e5 : removeF (newF 100) s = (newF 100, 10) := by unfold removeF; rw [hf]; rfl
  have e6 : fsyncF (newF 100) s = (newF 100, 10) := by unfold fsyncF; rw [hf]; rfl
  have E1 := hid e1
  have E2 := hid e2
  have E3 := hid e3
  have E4 := hid e4
  have E5 := hid e5
  have E6 := hid e6
  clear hs hf e1 e2 e3 e4 e5 e6
  go_enter Try.func3, Try.ntmps3
  go_wp2_with fail
  refine HNEW.out.mono ?_
  rintro e w1 ⟨sb, rfl, F1, hs1, hF1, hb1⟩
  have H1 := hid hs1
  have B1 := hid hb1
  have G1 := hid hF1
  clear hs1 hb1 hF1
  go_wp2_with (first | (go_at_call 8; refine (HN.out _).mono ?_; rintro e w2 ⟨rfl, hb2⟩; have B2 := hid hb2; clear hb2) | (go_at_call 9; refine (HR.out _).mono ?_; rintro e w3 ⟨rfl, rfl⟩))
  have H2 := hid (H1.out.below B2.out)
  have RD := hid (fsRead_ok _ H2.out s)
  refine RD.out.mono ?_
  rw [E3.out]
  rintro e w4 ⟨ra, rc, rfl, _, hb4⟩
  have B4 := hid hb4
  have H4 := hid (H2.out.below hb4)
  clear hb4 RD
  go_wp2_with fail
  have SZ := hid (fsSize_ok _ H4.out s)
  refine SZ.out.mono ?_
  rw [E3.out]
  rintro e w5 ⟨rfl, hb5⟩
  have B5 := hid hb5
  have H5 := hid (H4.out.below hb5)
  clear hb5 SZ
  go_wp2_with fail
  have K1 := hid (fsCreate_ok _ H5.out (Nat.zero_le _) s)
  refine K1.out.mono ?_
  rintro e w6 ⟨p, _, rfl, F6, D6, hs6, ht6⟩
  rw [E1.out p] at hs6 ⊢
  have H6 := hid hs6
  have T6 := hid ht6
  clear hs6 ht6 K1
  go_wp2_with fail
  have K2 := hid (show Calls Try.prog 14 #[.pointer (some ⟨sb, 0, none⟩), .string s, .slice none 0 0] w6 _ from fsAppend_ok _ H6.out (Nat.zero_le _) s _ [] (Bs.nil _ _) (by decide))
  refine K2.out.mono ?_
  rw [E2.out]
  rintro e w7 ⟨rfl, F7, D7, hs7, ht7⟩
  have H7 := hid hs7
  have T7 := hid ht7
  clear hs7 ht7 K2
  go_wp2_with fail
  have K3 := hid (fsRename_ok _ H7.out (Nat.zero_le _) s nA)
  refine K3.out.mono ?_
  rw [E4.out]
  rintro e w8 ⟨rfl, F8, D8, hs8, ht8⟩
  have H8 := hid hs8
  have T8 := hid ht8
  clear hs8 ht8 K3
  go_wp2_with fail
  have K4 := hid (fsRemove_ok _ H8.out (Nat.zero_le _) s)
  refine K4.out.mono ?_
  rw [E5.out]
  rintro e w9 ⟨rfl, F9, D9, hs9, ht9⟩
  have H9 := hid hs9
  have T9 := hid ht9
  clear hs9 ht9 K4
  go_wp2_with fail
  have K5 := hid (fsFsync_ok _ H9.out s)
  refine K5.out.mono ?_
  rw [E6.out]
  rintro e wa ⟨rfl, Fa, Da, hsa, hta⟩
  have Ha := hid hsa
  have Ta := hid hta
  clear hsa hta K5
  go_wp2_with fail
  have K6 := hid (fsFlip_no _ Ha.out s (.int .i64 0) (.int .u8 1) HF.out (by decide))
  refine K6.out.mono ?_
  rintro e wb ⟨rfl, hbb⟩
  have BB := hid hbb
  clear hbb K6
  go_wp2_with (go_at_call 6; refine (HAL.out _).mono ?_; rintro e wc ⟨rfl, hbc⟩; have BC := hid hbc; clear hbc)
  go_ret
  have s1 := B1.out.size
  have s2 := B2.out.size
  have s4 := B4.out.size
  have s5 := B5.out.size
  have s6 := T6.out.fr.size
  have s7 := T7.out.fr.size
  have s8 := T8.out.fr.size
  have s9 := T9.out.fr.size
  have g1 := G1.out
  have g6 : ∀ k, F6 k → w.heap.size ≤ k := fun k h => (T6.out.fF k h).elim (g1 k) (fun h => by omega)
  have g7 : ∀ k, F7 k → w.heap.size ≤ k := fun k h => (T7.out.fF k h).elim (g6 k) (fun h => by omega)
  have g8 : ∀ k, F8 k → w.heap.size ≤ k := fun k h => (T8.out.fF k h).elim (g7 k) (fun h => by omega)
  have g9 : ∀ k, F9 k → w.heap.size ≤ k := fun k h => (T9.out.fF k h).elim (g8 k) (fun h => by omega)
  have no : ∀ {G : Nat → Prop}, (∀ k, G k → w.heap.size ≤ k) → ∀ i, i < w.heap.size → ¬ G i := fun h i hi hG => by have := h i hG; omega
  have b5 := Below.below (Below.below (Below.below B1.out B2.out) B4.out) B5.out
  have b6 := Below.fr b5 T6.out.fr (no g1)
  have b7 := Below.fr b6 T7.out.fr (no g6)
  have b8 := Below.fr b7 T8.out.fr (no g7)
  have b9 := Below.fr b8 T9.out.fr (no g8)
  have ba := Below.fr b9 Ta.out.fr (no g9)
  exact ⟨rfl, Below.below (Below.below ba BB.out) BC.out⟩
theorem names_all (w : World) (s o : ByteArray) : Calls Try.prog 3 #[.string s, .string o] w fun e w' => e = .returned (.bool true) ∧ Below w.heap.size w w' := by
  by_cases h : 100 < s.size ∨ 100 < o.size
  · exact names_long w s o h
  · cases hs : nameR s with
    | true => exact names_right w s o (by omega) (by omega) hs
    | false => exact names_wrong w s o (by omega) (by omega) hs
end Go.Proofs.Ytgehalfnpbjjcaa
