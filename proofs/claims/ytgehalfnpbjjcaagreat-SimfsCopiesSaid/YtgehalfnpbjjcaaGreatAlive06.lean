/- simfs: the chapter's example comes. -/
import Derived.Test.YtgehalfnpbjjcaaGreatSimT
import Derived.Test.YtgehalfnpbjjcaaGreatSimH
import Derived.Test.YtgehalfnpbjjcaaGreatSimK
import Derived.Test.YtgehalfnpbjjcaaGreatAlivePure
import Derived.Lib.SlBytesConst
import Derived.Laws.BytesArg
namespace Go.Proofs.YtgehalfnpbjjcaaGreat
open Go Go.RowKit Go.Sort
set_option maxRecDepth 100000 in
theorem conv_str {S : Nat → Prop} {w : World} {a : Option Addr} {c : Nat} (h : Bs S w (.slice a 1 c) [120]) : (convert 33 9 (.slice a 1 c)).run Tryz.prog w = .ok (.string ⟨#[120]⟩) w := by
  obtain ⟨a', c', h1, h2, h3, h4⟩ := h
  injection h1 with e1 _ e3
  subst e1 e3
  rcases h4 with h4 | ⟨b, off, rfl, hb, hs, hc⟩
  · cases h4
  · exact run_convert_bytes_arg (P := Tryz.prog) w 33 5 Tryz.underlying33 Tryz.underlying5 b off 1 c [120] rfl (fun i hi => by
      obtain rfl : i = 0 := by omega
      have h9 := hc 0 120 rfl
      simpa using h9) 9 Tryz.underlying9
theorem FSr.ltF {w : World} {F D : Nat → Prop} {sb : Nat} {st : FSt} (h : FSr w F D sb st) {k : Nat} (hk : F k) : k < w.heap.size := by
  obtain ⟨m1, m2, ca, cc, ho⟩ := h.lies
  exact h.lt k (ho.sub k hk)
theorem noCuts {F : Nat → Prop} (w : World) : Row F w (.slice none 0 0) 0 1 [] := ⟨rfl, none, 0, rfl, ⟨Nat.le_refl _, by omega, Nat.zero_le _⟩, fun _ => rfl, .inl rfl⟩
set_option maxHeartbeats 1000000 in
set_option maxRecDepth 100000 in
theorem l06alive_ok (w : World) : Calls Tryz.prog 5 #[] w fun e w' => e = .returned (.bool true) ∧ Below w.heap.size w w' := by
  have kc := fun (w : World) (C : Array Value) (n c : Nat) => Lib.run_convert_bytes_const (P := Tryz.prog) w 33 5 C n c Tryz.underlying33 Tryz.underlying5
  have HNEW := hid (fsNew_ok w 100 (by decide) (by decide))
  go_enter Tryz.func5, Tryz.ntmps5
  go_wp2_with fail
  refine HNEW.out.mono ?_
  rintro e w1 ⟨sb, rfl, F1, hs1, hF1, hb1⟩
  have H1 := hid hs1
  have B1 := hid hb1
  have G1 := hid hF1
  clear hs1 hb1 hF1
  have HCR := hid (fsCreate_ok w1 H1.out (Nat.zero_le _) nA)
  go_wp2_with fail
  refine HCR.out.mono ?_
  rintro e w2 ⟨p, _, rfl, F2, D2, hs2, ht2⟩
  rw [(one_create p).2]
  have O2 := hid (one_create p).1
  generalize (createF (newF 100) nA p).1 = st2 at *
  have H2 := hid hs2
  have T2 := hid ht2
  clear hs2 ht2
  go_wp2_with fail
  have hbx : Bs F2 (w2.alloc (.cells #[.int .u8 120] 5 (1, 2))) (.slice (some ⟨w2.heap.size, 0, none⟩) 1 1) [120] :=
    ⟨_, 1, rfl, ⟨by decide, by decide, by unfold maxLen; decide⟩, (fun h => nomatch h), .inr ⟨w2.heap.size, 0, rfl, by simp, fun h => by have := H2.out.ltF h; omega, fun i y hy => by
      rw [cell_of_heap (heap_alloc_new w2 _)]
      cases i with
      | zero => simp at hy; subst hy; rfl
      | succ i => simp at hy⟩⟩
  have hba : Below w2.heap.size w2 (w2.alloc (.cells #[.int .u8 120] 5 (1, 2))) := (Below.refl _ _).alloc (Nat.le_refl _) _
  have HAP := hid (fsAppend_ok _ (H2.out.below hba) (by rw [O2.out.seen]; simp) nA _ [120] hbx (by decide))
  have HBA := hid hba
  clear hbx hba
  refine HAP.out.mono ?_
  rintro e w3 ⟨rfl, F3, D3, hs3, ht3⟩
  rw [(one_append O2.out).2]
  have O3 := hid (one_append O2.out).1
  clear HAP
  generalize (appendF st2 nA [120]).1 = st3 at *
  have H3 := hid hs3
  have T3 := hid ht3
  clear hs3 ht3
  have HFS := hid (fsFsync_ok w3 H3.out nA)
  go_wp2_with fail
  refine HFS.out.mono ?_
  rintro e w4 ⟨rfl, F4, D4, hs4, ht4⟩
  rw [(one_fsync O3.out).2]
  have O4 := hid (one_fsync O3.out).1
  clear HFS
  generalize (fsyncF st3 nA).1 = st4 at *
  have H4 := hid hs4
  have T4 := hid ht4
  clear hs4 ht4
  have HCO := hid (fsCopy_ok w4 H4.out (by rw [O4.out.chg]; simp))
  go_wp2_with fail
  refine HCO.out.mono ?_
  rintro e w5 ⟨cb, rfl, sc5, φ, F5, D5, hs5, hc5, hF5, hD5, hb5⟩
  have O5 := hid (one_copy O4.out hc5)
  have H5 := hid hs5
  have G5 := hid hF5
  have B5 := hid hb5
  clear hs5 hc5 hF5 hD5 hb5 HCO
  have HSY := hid (fsSync_ok w5 H5.out)
  go_wp2_with fail
  refine HSY.out.mono ?_
  rintro e w6 ⟨rfl, F6, D6, hs6, ht6⟩
  have O6 := hid (one_sync O5.out)
  clear HSY
  generalize (syncF sc5).1 = sc6 at *
  generalize (syncF sc5).2 = z6 at *
  have H6 := hid hs6
  have T6 := hid ht6
  clear hs6 ht6
  have hch : (settleF sc6 (upN sc6 0)).safe.length ≤ 1000000 := by
    rw [upN_zero]
    show (doAll sc6.safe (sc6.chg.take 0)).length ≤ _
    rw [List.take_zero]
    show sc6.safe.length ≤ _
    rw [O6.out.safe]
    simp
  have HUP := hid (show Calls Tryz.prog 17 #[.pointer (some ⟨cb, 0, none⟩), .int .i64 0, .slice none 0 0] w6 _ from fsUp_ok (cuts := []) (ka := none) (kc := 0) w6 H6.out (by rw [O6.out.chg]; simp) 0 hch (noCuts w6))
  clear hch
  go_wp2_with fail
  refine HUP.out.mono ?_
  rintro e w7 ⟨rfl, F7, D7, hs7, ht7⟩
  have R7 := hid (two_up O6.out)
  clear HUP
  generalize upF sc6 0 [] = sc7 at *
  have H7 := hid hs7
  have T7 := hid ht7
  clear hs7 ht7
  have HRD := hid (fsRead_ok w7 H7.out nA)
  go_wp2_with fail
  refine HRD.out.mono ?_
  rintro e w8 ⟨ra, rc, rfl, ho8, hb8⟩
  rw [R7.out] at ho8 ⊢
  have RO8 := hid ho8
  have B8 := hid hb8
  clear ho8 hb8 HRD R7
  -- the first one again
  have H8 : FSr w8 F4 D4 sb st4 := by
    have s5 := B5.out.size
    have s6 := T6.out.fr.size
    exact (((H4.out.below B5.out).fr T6.out.fr (fun k hk h => by have := H4.out.lt k hk; have := G5.out k h; omega)).fr T7.out.fr (fun k hk h => by
      have := H4.out.lt k hk
      rcases T6.out.fF k h with h | h
      · have := G5.out k h; omega
      · omega)).below B8.out
  have HUQ := hid (show Calls Tryz.prog 17 #[.pointer (some ⟨sb, 0, none⟩), .int .i64 0, .slice none 0 0] w8 _ from fsUp_ok (cuts := []) (ka := none) (kc := 0) w8 H8 (by rw [O4.out.chg]; simp) 0 (by
    rw [upN_zero]
    show (doAll st4.safe (st4.chg.take 0)).length ≤ _
    rw [List.take_zero]
    show st4.safe.length ≤ _
    rw [O4.out.safe]
    simp) (noCuts w8))
  have H8' := hid H8
  clear H8
  go_wp2_with fail
  refine HUQ.out.mono ?_
  rintro e w9 ⟨rfl, F9, D9, hs9, ht9⟩
  clear HUQ
  have R9 := hid (one_up O4.out)
  generalize upF st4 0 [] = st9 at *
  have H9 := hid hs9
  have T9 := hid ht9
  clear hs9 ht9
  have HLI := hid (fsList_ok w9 H9.out (by rw [R9.out.2]; simp))
  rw [R9.out.1] at HLI
  have CV := hid (conv_str (S := F4) (w := w9) (a := ra) (c := rc) (by
    have s5 := B5.out.size
    have s6 := T6.out.fr.size
    have s7 := T7.out.fr.size
    have h9 : Bs F4 w8 (.slice ra 1 rc) [120] := OwnB.bs RO8.out (fun k hk _ hF => by have := H4.out.ltF hF; omega)
    exact h9.fr T9.out.fr (fun _ _ h => h)))
  have hcv := CV.out
  go_wp2_with fail
  refine HLI.out.mono ?_
  rintro e w10 ⟨la, lc, rfl, _, hb10⟩
  have B10 := hid hb10
  clear hb10
  go_wp2
  go_ret
  have s1 := B1.out.size
  have s2 := T2.out.fr.size
  have sa := HBA.out.size
  have s3 := T3.out.fr.size
  have s4 := T4.out.fr.size
  have s5 := B5.out.size
  have s6 := T6.out.fr.size
  have s7 := T7.out.fr.size
  have s8 := B8.out.size
  have g1 := G1.out
  have g2 : ∀ k, F2 k → w.heap.size ≤ k := fun k h => (T2.out.fF k h).elim (g1 k) (fun h => by omega)
  have g3 : ∀ k, F3 k → w.heap.size ≤ k := fun k h => (T3.out.fF k h).elim (g2 k) (fun h => by omega)
  have g4 : ∀ k, F4 k → w.heap.size ≤ k := fun k h => (T4.out.fF k h).elim (g3 k) (fun h => by omega)
  have g5 : ∀ k, F5 k → w.heap.size ≤ k := fun k h => by have := G5.out k h; omega
  have g6 : ∀ k, F6 k → w.heap.size ≤ k := fun k h => (T6.out.fF k h).elim (g5 k) (fun h => by omega)
  have no : ∀ {G : Nat → Prop}, (∀ k, G k → w.heap.size ≤ k) → ∀ i, i < w.heap.size → ¬ G i := fun h i hi hG => by have := h i hG; omega
  have b2 := Below.fr B1.out T2.out.fr (no g1)
  have b3 := Below.fr (Below.below b2 HBA.out) T3.out.fr (no g2)
  have b4 := Below.fr b3 T4.out.fr (no g3)
  have b5 := Below.below b4 B5.out
  have b6 := Below.fr b5 T6.out.fr (no g5)
  have b7 := Below.fr b6 T7.out.fr (no g6)
  have b8 := Below.below b7 B8.out
  have b9 := Below.fr b8 T9.out.fr (no g4)
  exact ⟨rfl, Below.below b9 B10.out⟩
end Go.Proofs.YtgehalfnpbjjcaaGreat
