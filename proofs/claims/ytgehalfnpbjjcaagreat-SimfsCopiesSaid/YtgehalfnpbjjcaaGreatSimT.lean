/- simfs: Up. -/
import Derived.Test.YtgehalfnpbjjcaaGreatSimS
import Derived.Test.YtgehalfnpbjjcaaGreatSimJ
import Derived.Test.YtgehalfnpbjjcaaGreatUpKit
namespace Go.Proofs.YtgehalfnpbjjcaaGreat
open Go Go.RowKit Go.Sort
set_option maxHeartbeats 1000000 in
set_option maxRecDepth 100000 in
theorem fsUp_ok {F D : Nat → Prop} {sb : Nat} {st : FSt} {cuts : List Int} {ka : Option Addr} {kc : Nat} (w : World) (h : FSr w F D sb st) (hlen : st.chg.length ≤ 1000000) (n : Int) (hsl : (settleF st (upN st n)).safe.length ≤ 1000000) (hk : Row F w (.slice ka cuts.length kc) cuts.length 1 (cuts.map (Value.int .i64))) :
    Calls Tryz.prog 17 #[.pointer (some ⟨sb, 0, none⟩), .int .i64 n, .slice ka cuts.length kc] w fun e w' => e = .returned (.int .i64 0) ∧ ∃ F' D', FSr w' F' D' sb (upF st n cuts) ∧ Turn F D F' D' w w' := by
  obtain ⟨m1, m2, ca, cc, ho⟩ := h.lies
  have mixed : Tryz.prog.follows .mixedOrders = true := by kernel_rfl
  have c3 : w.cell? ⟨sb, 3, none⟩ = some (.slice ca st.chg.length cc) := cell_of_heap ho.head 3
  have hmm := @run_makeMap Tryz.prog
  have hle : upN st n ≤ st.chg.length := by unfold upN; omega
  have hse := fsSettle_ok w ho (upN st n) hle
  have HSE := hid hse
  have hok := h.ok.settle (upN st n)
  have HOK0 := hid h.ok
  have HLT := hid h.lt
  have HO := hid ho
  have HK9 := hid hk
  have hFw : ∀ k, F k → k < w.heap.size := fun k hk => h.lt k (ho.sub k hk)
  have HFW := hid hFw
  have hn : min (max n 0) (st.chg.length : Int) = (upN st n : Int) := by unfold upN; omega
  have hup : upF st n cuts = { settleF st (upN st n) with files := upGo cuts (ptrsF (settleF st (upN st n)).safe) 0 [] (settleF st (upN st n)).files, seen := (settleF st (upN st n)).safe, armed := false, down := false } := rfl
  have huo := h.ok.up n cuts
  clear hse ho hk hFw h
  rw [hup] at huo ⊢
  clear hup
  generalize settleF st (upN st n) = ss at *
  have HUO := hid huo
  clear huo
  go_enter Tryz.func17, Tryz.ntmps17
  go_wp2_with fail
  refine HSE.out.mono ?_
  rintro e w2 ⟨rfl, hq, hf⟩
  have HQ := hid hq
  have HF := hid hf
  clear HSE
  have q2 : w2.cell? ⟨sb, 2, none⟩ = some (.map (some m2)) := cell_of_heap hq.head 2
  have q2' : (w2.alloc (.map #[] 0)).cell? ⟨sb, 2, none⟩ = some (.map (some m2)) := cell_of_heap (hq.below ((Below.refl _ w2).alloc (Nat.le_refl _) (.map #[] 0))).head 2
  have hzw : w.heap.size ≤ w2.heap.size := hf.size
  clear hq hf
  go_wp2_with fail
  obtain ⟨wd, hwd⟩ : ∃ wd, w2.alloc (.map #[] 0) = wd := ⟨_, rfl⟩
  have HZD := hid (show wd.heap.size = w2.heap.size + 1 from by rw [← hwd]; simp)
  have HMD := hid (show MapG ekP Value.bool wd w2.heap.size [] from by rw [← hwd]; exact MapG.made)
  have HBD := hid (show Below w2.heap.size w2 wd from by rw [← hwd]; exact (Below.refl _ _).alloc (Nat.le_refl _) _)
  rw [hwd]
  have HK := hid (keys_ok wd m2)
  refine HK.out.mono ?_
  rintro e w3 ⟨rfl, rfl⟩
  go_wp2_with fail
  have hq3 := HQ.out.below HBD.out
  have HS := hid (sorted_ok wd m2 ss.safe hq3.safe (fun p hp => (hok.safeI p hp).2) hsl)
  have HQ3 := hid hq3
  clear hq3
  refine HS.out.mono ?_
  rintro e w4 ⟨sa, sc, rfl, ho4, hb4⟩
  have HN4 := hid (ho4.row (S := fun k => F k ∨ k = w2.heap.size) (fun k hk _ h => h.elim (fun h => by have := HFW.out k h; have := HZD.out; omega) (fun h => by have := HZD.out; omega)))
  have HB4 := hid hb4
  have HQ4 := hid (HQ3.out.below hb4)
  have HMD4 := hid (HMD.out.fr (Fr.of_below hb4 : Fr (fun _ => False) wd w4) id)
  have HC4 := hid ((((HK9.out.mono (S' := fun k => F k ∨ w.heap.size ≤ k) (fun k hk h => h.elim id (fun h => by omega))).fr HF.out (fun _ _ h => .inl h)).fr (Fr.of_below HBD.out : Fr (fun _ => False) w2 wd) (fun _ _ h => h.elim)).fr (Fr.of_below hb4 : Fr (fun _ => False) wd w4) (fun _ _ h => h.elim))
  clear ho4 hb4 HS HK HQ3 HMD
  have hml : ∀ k, F k → k ≠ w2.heap.size := fun k hk => by have := HFW.out k hk; omega
  have HML := hid hml
  clear hml
  generalize hmd : w2.heap.size = md at *
  go_wp2
  go_loopg [31] ss.safe.length (fun kx s31 wr => ∃ (i : Nat) (dn : List (Nat × Bool)) (done : List Nat) (f : Nat → Option Fil), s31 = .int .i64 i ∧ i ≤ ss.safe.length ∧ ss.safe.length - i ≤ kx ∧ Hid (upGo cuts ((ptrsF ss.safe).drop i) i done f = upGo cuts (ptrsF ss.safe) 0 [] ss.files) ∧ Hid (DoneF dn done) ∧ Hid (∀ a ∈ dn, (f a.1).isSome = true) ∧ Hid (MapG ekP Value.bool wr md dn) ∧ Hid (FilsOk f ∧ ∀ p, (ss.files p).isSome = true → (f p).isSome = true) ∧ Hid (FSo wr F D sb { ss with files := f } m1 m2 (.slice none 0 0)) ∧ Hid (Fr (fun k => F k ∨ k = md) w4 wr))
  case atStart => exact ⟨0, [], [], ss.files, rfl, Nat.zero_le _, Nat.le_refl _, hid rfl, hid DoneF.nil, hid (by simp), HMD4, hid ⟨hok.fil, fun _ h => h⟩, HQ4, hid (Fr.refl _ _)⟩
  case round =>
    obtain ⟨i, dn, done, f, rfl, hi, hk, HU, HD, HDI, HM, HFO, HQR, HFR⟩ := hrel
    by_cases hlt : i < ss.safe.length
    · have hlt' : (i : Int) < (ss.safe.length : Int) := by omega
      obtain ⟨nm, hnm⟩ : ∃ nm, (sortN (ss.safe.map Prod.fst))[i]? = some nm := ⟨_, List.getElem?_eq_getElem (by rw [sortN_length, List.length_map]; exact hlt)⟩
      obtain ⟨p, hdg, hmem, hptr⟩ := name_at hok.safeN hnm
      obtain ⟨g, off, rfl, hcn, _, _, _, _⟩ := (HN4.out.fr HFR.out (fun _ _ h => h)).cellAt (i := i) (x := .string nm) (by rw [List.getElem?_map, hnm]; rfl)
      have c2r : wr.cell? ⟨sb, 2, none⟩ = some (.map (some m2)) := cell_of_heap HQR.out.head 2
      have hsp : (f p).isSome = true := HFO.out.2 p (hok.safeI _ hmem).1
      obtain ⟨x, hx⟩ := Option.isSome_iff_exists.1 hsp
      obtain ⟨hFp, v, hv, hbs⟩ := HQR.out.files p x hx
      have hgk : RowAt wr p := ⟨_, _, hv⟩
      have hgs : ∀ a ∈ dn, RowAt wr a.1 := fun a ha => by
        obtain ⟨y, hy⟩ := Option.isSome_iff_exists.1 (HDI.out a ha)
        obtain ⟨_, u, hu, _⟩ := HQR.out.files a.1 y hy
        exact ⟨_, _, hu⟩
      have hlk := run_lookupG (ok := false) keyNm r_names (te := 73) (z := .pointer none) (fun _ => by kernel_rfl) HQR.out.safe (fun _ _ => trivial) nm trivial
      rw [show dget ({ ss with files := f } : FSt).safe nm = some p from hdg] at hlk
      have hlk2 := run_lookupG (ok := false) keyFP r_doneM (te := 4) (z := .bool false) (fun _ => by kernel_rfl) HM.out hgs p hgk
      rw [HD.out p] at hlk2
      simp only [Bool.false_eq_true, if_false, ekP_def] at hlk hlk2
      have HX := hid hx
      have HV := hid hv
      have HBS := hid hbs
      have HGK := hid hgk
      have HGS := hid hgs
      have HPT := hid hptr
      have hxo := HFO.out.1 p x hx
      clear hx hv hbs hgk hgs hptr hdg hmem hnm
      by_cases hp : p ∈ done
      · rw [if_pos hp] at hlk2
        simp only at hlk2
        go_wp2_with fail
        go_roundg (ss.safe.length - (i + 1))
        case measure => omega
        case rel => exact ⟨i + 1, dn, done, f, by go_num, hlt, Nat.le_refl _, hid ((upGo_in HPT.out hp).symm.trans HU.out), HD, HDI, HM, HFO, HQR, HFR⟩
      · rw [if_neg hp] at hlk2
        simp only at hlk2
        obtain ⟨fa, fc, rfl, hfit, _⟩ := id HBS.out
        have hmdp : p ≠ md := HML.out p hFp
        by_cases hc : i < cuts.length
        · have hc' : (i : Int) < (cuts.length : Int) := by omega
          obtain ⟨cv, hcv⟩ : ∃ cv, cuts[i]? = some cv := ⟨_, List.getElem?_eq_getElem hc⟩
          obtain ⟨kb, koff, rfl, hkc, hkb, hkF, hk1, hk2⟩ := (HC4.out.fr HFR.out (fun k hk h => h.elim .inl (fun e => .inr (by omega)))).cellAt (i := i) (x := .int .i64 cv) (by rw [List.getElem?_map, hcv]; rfl)
          go_wp2_with (at_mapUpdate; refine wpl_updateG (v := true) rfl rfl keyFP r_doneM HM.out HGS.out HGK.out rfl rfl rfl ?_; intro w5 hm5 hf5 hs5; have HM5 := hid hm5; have HF5 := hid hf5; clear hm5 hf5 hs5)
          have HQ5 := hid (HQR.out.fr HF5.out (fun k hk e => by have := HLT.out k hk; omega))
          have HV5 := hid (HF5.out.heap HV.out hmdp)
          have HB5 := hid (HBS.out.dep HF5.out (fun k hk _ e => by have := HLT.out k hk; omega))
          have HF5' := hid (HFR.out.trans (HF5.out.mono (fun k _ e => .inr e)))
          have hcn : (cutN cuts i x : Int) = (x.safe : Int) + min (max cv 0) ((x.b.length : Int) - (x.safe : Int)) := by
            unfold cutN
            rw [hcv]
            simp only
            omega
          have hcl := cutN_le (cuts := cuts) (i := i) hxo.1
          have PA0 := hid (show ∀ W, (Instr.fieldAt 87 (.pointer (some ⟨p, 0, none⟩)) 0).run Tryz.prog W = .ok (.pointer (some ⟨p, 0, none⟩)) W from fun W => by go_simp)
          have PA1 := hid (show ∀ W, (Instr.fieldAt 87 (.pointer (some ⟨p, 0, none⟩)) 1).run Tryz.prog W = .ok (.pointer (some ⟨p, 1, none⟩)) W from fun W => by go_simp)
          have PL0 := hid (show ∀ W, Fr (fun _ => False) w5 W → (Instr.loadAt 33 (.pointer (some ⟨p, 0, none⟩))).run Tryz.prog W = .ok (.slice fa x.b.length fc) W from fun W hW => by have hc : W.cell? ⟨p, 0, none⟩ = some (.slice fa x.b.length fc) := cell_of_heap (hW.heap HV5.out id) 0; go_simp)
          have PL1 := hid (show ∀ W, Fr (fun _ => False) w5 W → (Instr.loadAt 3 (.pointer (some ⟨p, 1, none⟩))).run Tryz.prog W = .ok (.int .i64 (x.safe : Int)) W from fun W hW => by have hc : W.cell? ⟨p, 1, none⟩ = some (.int .i64 (x.safe : Int)) := cell_of_heap (hW.heap HV5.out id) 1; go_simp)
          have PIA := hid (show ∀ W, (Instr.indexAt 34 (.slice (some ⟨kb, koff, none⟩) cuts.length kc) (.int .i64 (i : Int))).run Tryz.prog W = .ok (.pointer (some ⟨kb, koff + i, none⟩)) W from fun W => by go_simp)
          have hkc5 : w5.cell? ⟨kb, koff + i, none⟩ = some (.int .i64 cv) := (HF5.out.cell (p := ⟨kb, koff + i, none⟩) hkb (fun e => hkF (.inr (by show w.heap.size ≤ kb; have e' : kb = md := e; omega)))).trans hkc
          have PLC := hid (show ∀ W, Fr (fun _ => False) w5 W → (Instr.loadAt 3 (.pointer (some ⟨kb, koff + i, none⟩))).run Tryz.prog W = .ok (.int .i64 cv) W from fun W hW => by have hc : W.cell? ⟨kb, koff + i, none⟩ = some (.int .i64 cv) := (hW.cell (p := ⟨kb, koff + i, none⟩) (by have := HF5.out.size; show kb < w5.heap.size; omega) id).trans hkc5; go_simp)
          have PMX := hid (show ∀ ty cs W, (builtin .max #[3, 3] ty cs #[.int .i64 cv, .int .i64 0]).run Tryz.prog W = .ok (.value (.int .i64 (max cv 0))) W from fun ty cs W => by go_simp)
          have PLN := hid (show ∀ ty cs W, (builtin .len #[33] ty cs #[.slice fa x.b.length fc]).run Tryz.prog W = .ok (.value (.int .i64 (x.b.length : Int))) W from fun ty cs W => by go_simp)
          have PSB := hid (show ∀ W, (binOp .sub 3 (.int .i64 (x.b.length : Int)) (.int .i64 (x.safe : Int))).run Tryz.prog W = .ok (.int .i64 ((x.b.length : Int) - (x.safe : Int))) W from fun W => by go_simp; exact IntWalk.i64_in _ (by omega))
          have PMN := hid (show ∀ ty cs W, (builtin .min #[3, 3] ty cs #[.int .i64 (max cv 0), .int .i64 ((x.b.length : Int) - (x.safe : Int))]).run Tryz.prog W = .ok (.value (.int .i64 (min (max cv 0) ((x.b.length : Int) - (x.safe : Int))))) W from fun ty cs W => by go_simp)
          have PAD := hid (show ∀ W, (binOp .add 3 (.int .i64 (x.safe : Int)) (.int .i64 (min (max cv 0) ((x.b.length : Int) - (x.safe : Int))))).run Tryz.prog W = .ok (.int .i64 (cutN cuts i x : Int)) W from fun W => by rw [hcn]; go_simp; exact IntWalk.i64_in _ (by omega))
          have PST := hid (show (Instr.storeAt 3 (.pointer (some ⟨p, 1, none⟩)) (.int .i64 (cutN cuts i x : Int))).run Tryz.prog w5.drew = .ok () (w5.drew.setCell ⟨p, 1, none⟩ (.int .i64 (cutN cuts i x : Int))) from by
            have hc : w5.drew.cell? ⟨p, 1, none⟩ = some (.int .i64 (x.safe : Int)) := cell_of_heap (w := w5.drew) HV5.out 1
            have hz := frozen_of (w := w5.drew) HV5.out 1
            go_simp)
          have hS0 : Fr (fun _ => False) w5 w5.drew := (Fr.refl _ w5).drew
          refine hg_start (fun W => Fr (fun _ => False) w5 W) 23 mixed ?_
          refine hgt 0 51 kMove (.tmp 10) (.pointer (some ⟨p, 0, none⟩)) (by kernel_rfl) (by kernel_rfl) (by kernel_rfl) (by kernel_rfl) (by exact fun _ _ _ h => h) (by kernel_rfl) (by kernel_rfl) hS0 (fun o w' ho hs => ex_move ho (by kernel_rfl)) ?_
          refine hgt 1 52 kNil (.tmp 51) (.pointer (some ⟨p, 0, none⟩)) (by kernel_rfl) (by kernel_rfl) (by kernel_rfl) (by kernel_rfl) (by exact fun _ _ _ h => h) (by kernel_rfl) (by kernel_rfl) hS0 (fun o w' ho hs => ex_nil ho (by kernel_rfl)) ?_
          refine hgt 2 53 kFA (87, .tmp 52, 1) (.pointer (some ⟨p, 1, none⟩)) (by kernel_rfl) (by kernel_rfl) (by kernel_rfl) (by kernel_rfl) (by exact fun _ _ _ h => h) (by kernel_rfl) (by kernel_rfl) hS0 (fun o w' ho hs => ex_fa ho (by kernel_rfl) (PA1.out _)) ?_
          refine hgt 3 54 kLoad (3, .tmp 53) (.int .i64 (x.safe : Int)) (by kernel_rfl) (by kernel_rfl) (by kernel_rfl) (by kernel_rfl) (by exact fun _ _ _ h => h) (by kernel_rfl) (by kernel_rfl) hS0 (fun o w' ho hs => ex_load ho (by kernel_rfl) (PL1.out _ hs)) ?_
          refine hgt 4 55 kMove (.tmp 2) (.slice (some ⟨kb, koff, none⟩) cuts.length kc) (by kernel_rfl) (by kernel_rfl) (by kernel_rfl) (by kernel_rfl) (by exact fun _ _ _ h => h) (by kernel_rfl) (by kernel_rfl) hS0 (fun o w' ho hs => ex_move ho (by kernel_rfl)) ?_
          refine hgt 5 56 kMove (.tmp 8) (.int .i64 (i : Int)) (by kernel_rfl) (by kernel_rfl) (by kernel_rfl) (by kernel_rfl) (by exact fun _ _ _ h => h) (by kernel_rfl) (by kernel_rfl) hS0 (fun o w' ho hs => ex_move ho (by kernel_rfl)) ?_
          refine hgt 6 57 kIA (34, .tmp 55, .tmp 56) (.pointer (some ⟨kb, koff + i, none⟩)) (by kernel_rfl) (by kernel_rfl) (by kernel_rfl) (by kernel_rfl) (by exact fun _ _ _ h => h) (by kernel_rfl) (by kernel_rfl) hS0 (fun o w' ho hs => ex_ia ho (by kernel_rfl) (by kernel_rfl) (PIA.out _)) ?_
          refine hgt 7 58 kLoad (3, .tmp 57) (.int .i64 cv) (by kernel_rfl) (by kernel_rfl) (by kernel_rfl) (by kernel_rfl) (by exact fun _ _ _ h => h) (by kernel_rfl) (by kernel_rfl) hS0 (fun o w' ho hs => ex_load ho (by kernel_rfl) (PLC.out _ hs)) ?_
          refine hgt 8 59 kBi (.max, [.tmp 58, .const (.int .i64 0)], [3, 3]) (.int .i64 (max cv 0)) (by kernel_rfl) (by kernel_rfl) (by kernel_rfl) (by kernel_rfl) (by exact fun _ _ _ h => h) (by kernel_rfl) (by kernel_rfl) hS0 (fun o w' ho hs => ex_bi (vs := [.int .i64 cv, .int .i64 0]) ho (by kernel_rfl) (fun ty cs => PMX.out ty cs _)) ?_
          refine hgt 9 60 kMove (.tmp 10) (.pointer (some ⟨p, 0, none⟩)) (by kernel_rfl) (by kernel_rfl) (by kernel_rfl) (by kernel_rfl) (by exact fun _ _ _ h => h) (by kernel_rfl) (by kernel_rfl) hS0 (fun o w' ho hs => ex_move ho (by kernel_rfl)) ?_
          refine hgt 10 61 kNil (.tmp 60) (.pointer (some ⟨p, 0, none⟩)) (by kernel_rfl) (by kernel_rfl) (by kernel_rfl) (by kernel_rfl) (by exact fun _ _ _ h => h) (by kernel_rfl) (by kernel_rfl) hS0 (fun o w' ho hs => ex_nil ho (by kernel_rfl)) ?_
          refine hgt 11 62 kFA (87, .tmp 61, 0) (.pointer (some ⟨p, 0, none⟩)) (by kernel_rfl) (by kernel_rfl) (by kernel_rfl) (by kernel_rfl) (by exact fun _ _ _ h => h) (by kernel_rfl) (by kernel_rfl) hS0 (fun o w' ho hs => ex_fa ho (by kernel_rfl) (PA0.out _)) ?_
          refine hgt 12 63 kLoad (33, .tmp 62) (.slice fa x.b.length fc) (by kernel_rfl) (by kernel_rfl) (by kernel_rfl) (by kernel_rfl) (by exact fun _ _ _ h => h) (by kernel_rfl) (by kernel_rfl) hS0 (fun o w' ho hs => ex_load ho (by kernel_rfl) (PL0.out _ hs)) ?_
          refine hgt 13 64 kBi (.len, [.tmp 63], [33]) (.int .i64 (x.b.length : Int)) (by kernel_rfl) (by kernel_rfl) (by kernel_rfl) (by kernel_rfl) (by exact fun _ _ _ h => h) (by kernel_rfl) (by kernel_rfl) hS0 (fun o w' ho hs => ex_bi (vs := [.slice fa x.b.length fc]) ho (by kernel_rfl) (fun ty cs => PLN.out ty cs _)) ?_
          refine hgt 14 65 kMove (.tmp 10) (.pointer (some ⟨p, 0, none⟩)) (by kernel_rfl) (by kernel_rfl) (by kernel_rfl) (by kernel_rfl) (by exact fun _ _ _ h => h) (by kernel_rfl) (by kernel_rfl) hS0 (fun o w' ho hs => ex_move ho (by kernel_rfl)) ?_
          refine hgt 15 66 kNil (.tmp 65) (.pointer (some ⟨p, 0, none⟩)) (by kernel_rfl) (by kernel_rfl) (by kernel_rfl) (by kernel_rfl) (by exact fun _ _ _ h => h) (by kernel_rfl) (by kernel_rfl) hS0 (fun o w' ho hs => ex_nil ho (by kernel_rfl)) ?_
          refine hgt 16 67 kFA (87, .tmp 66, 1) (.pointer (some ⟨p, 1, none⟩)) (by kernel_rfl) (by kernel_rfl) (by kernel_rfl) (by kernel_rfl) (by exact fun _ _ _ h => h) (by kernel_rfl) (by kernel_rfl) hS0 (fun o w' ho hs => ex_fa ho (by kernel_rfl) (PA1.out _)) ?_
          refine hgt 17 68 kLoad (3, .tmp 67) (.int .i64 (x.safe : Int)) (by kernel_rfl) (by kernel_rfl) (by kernel_rfl) (by kernel_rfl) (by exact fun _ _ _ h => h) (by kernel_rfl) (by kernel_rfl) hS0 (fun o w' ho hs => ex_load ho (by kernel_rfl) (PL1.out _ hs)) ?_
          refine hgt 18 69 kBin (.sub, 3, .tmp 64, .tmp 68) (.int .i64 ((x.b.length : Int) - (x.safe : Int))) (by kernel_rfl) (by kernel_rfl) (by kernel_rfl) (by kernel_rfl) (by exact fun _ _ _ h => h) (by kernel_rfl) (by kernel_rfl) hS0 (fun o w' ho hs => ex_bin (vx := .int .i64 (x.b.length : Int)) (vy := .int .i64 (x.safe : Int)) ho (by kernel_rfl) (by kernel_rfl) rfl (PSB.out _)) ?_
          refine hgt 19 70 kBi (.min, [.tmp 59, .tmp 69], [3, 3]) (.int .i64 (min (max cv 0) ((x.b.length : Int) - (x.safe : Int)))) (by kernel_rfl) (by kernel_rfl) (by kernel_rfl) (by kernel_rfl) (by exact fun _ _ _ h => h) (by kernel_rfl) (by kernel_rfl) hS0 (fun o w' ho hs => ex_bi (vs := [.int .i64 (max cv 0), .int .i64 ((x.b.length : Int) - (x.safe : Int))]) ho (by kernel_rfl) (fun ty cs => PMN.out ty cs _)) ?_
          refine hgt 20 71 kBin (.add, 3, .tmp 54, .tmp 70) (.int .i64 (cutN cuts i x : Int)) (by kernel_rfl) (by kernel_rfl) (by kernel_rfl) (by kernel_rfl) (by exact fun _ _ _ h => h) (by kernel_rfl) (by kernel_rfl) hS0 (fun o w' ho hs => ex_bin (vx := .int .i64 (x.safe : Int)) (vy := .int .i64 (min (max cv 0) ((x.b.length : Int) - (x.safe : Int)))) ho (by kernel_rfl) (by kernel_rfl) rfl (PAD.out _)) ?_
          refine hg1 21 (by kernel_rfl) ?_
          refine hg_val 72 kNil (.tmp 51) (.pointer (some ⟨p, 0, none⟩)) (by kernel_rfl) (fun o ho => ex_nil ho (by kernel_rfl)) (.inr hS0) ?_
          refine hg1 22 (by kernel_rfl) ?_
          refine hg_val 73 kFA (87, .tmp 72, 1) (.pointer (some ⟨p, 1, none⟩)) (by kernel_rfl) (fun o ho => ex_fa ho (by kernel_rfl) (PA1.out _)) (.inr hS0) ?_
          refine hg1 23 (by kernel_rfl) ?_
          refine hg_store 3 (.tmp 73) (.tmp 71) (.pointer (some ⟨p, 1, none⟩)) (.int .i64 (cutN cuts i x : Int)) (by kernel_rfl) (by kernel_rfl) (by kernel_rfl) (PST.out) (.inl rfl) ?_
          refine hg_done (by kernel_rfl) ?_
          obtain ⟨w6, hw6⟩ : ∃ w6, w5.drew.setCell ⟨p, 1, none⟩ (.int .i64 (cutN cuts i x : Int)) = w6 := ⟨_, rfl⟩
          have HQ6 := hid (show FSo w6 F D sb { ss with files := putFil f p ⟨x.b, cutN cuts i x⟩ } m1 m2 (.slice none 0 0) from by rw [← hw6]; exact HQ5.out.mark HX.out HV5.out HB5.out _)
          have hf6 : Fr (· = p) w5 w6 := by rw [← hw6]; exact ((Fr.refl (· = p) w5).drew).setCell (fun _ => rfl) _
          have HV6 := hid (show w6.heap[p]? = some (.cells #[.slice fa x.b.length fc, .int .i64 (cutN cuts i x : Int)] 87 (0, 0)) from by rw [← hw6]; exact (heap_store (w := w5.drew) HV5.out 1 (.int .i64 (cutN cuts i x : Int))).trans rfl)
          have HB6 := hid (HB5.out.dep hf6 (fun k hk hnf e => hnf (e ▸ hFp)))
          have HF6 := hid (HF5'.out.trans (hf6.mono (fun k _ e => .inl (e ▸ hFp))))
          have HM6 := hid (HM5.out.fr hf6 (fun e => hmdp e.symm))
          rw [hw6]
          clear hcn hw6 hf6 PA0 PA1 PL0 PL1 PIA PLC PMX PLN PSB PMN PAD PST hS0 hkc5 HQ5 HV5 HB5 HF5' HM5 HF5
          go_wp2_with fail
          have hfit1 := hfit.1
          have hfit2 := hfit.2.1
          have hfit3 := hfit.2.2
          obtain ⟨y, hy⟩ : ∃ y : Fil, y = ⟨x.b, cutN cuts i x⟩ := ⟨_, rfl⟩
          have hyb : y.b = x.b := by rw [hy]
          have hys : y.safe = cutN cuts i x := by rw [hy]
          rw [← hyb] at HV6 HB6 hfit1 hfit2
          rw [← hys] at HV6
          rw [← hy] at HQ6
          have hyl : y.safe ≤ y.b.length := by rw [hys, hyb]; exact hcl
          have HYB := hid hyb
          have HYS := hid hys
          clear hyb hys hy
          have PA0 := hid (show ∀ W, (Instr.fieldAt 87 (.pointer (some ⟨p, 0, none⟩)) 0).run Tryz.prog W = .ok (.pointer (some ⟨p, 0, none⟩)) W from fun W => by go_simp)
          have PA1 := hid (show ∀ W, (Instr.fieldAt 87 (.pointer (some ⟨p, 0, none⟩)) 1).run Tryz.prog W = .ok (.pointer (some ⟨p, 1, none⟩)) W from fun W => by go_simp)
          have QL0 := hid (show ∀ W, Fr (fun _ => False) w6 W → (Instr.loadAt 33 (.pointer (some ⟨p, 0, none⟩))).run Tryz.prog W = .ok (.slice fa y.b.length fc) W from fun W hW => by have hc : W.cell? ⟨p, 0, none⟩ = some (.slice fa y.b.length fc) := cell_of_heap (hW.heap HV6.out id) 0; go_simp)
          have QL1 := hid (show ∀ W, Fr (fun _ => False) w6 W → (Instr.loadAt 3 (.pointer (some ⟨p, 1, none⟩))).run Tryz.prog W = .ok (.int .i64 (y.safe : Int)) W from fun W hW => by have hc : W.cell? ⟨p, 1, none⟩ = some (.int .i64 (y.safe : Int)) := cell_of_heap (hW.heap HV6.out id) 1; go_simp)
          have QSL := hid (show ∀ W, (Instr.sliceAt 33 (.slice fa y.b.length fc) none (some (.int .i64 (y.safe : Int))) (some (.int .i64 (y.safe : Int)))).run Tryz.prog W = .ok (.slice fa y.safe y.safe) W from fun W => by have hnf : ¬ fc < y.safe := (by omega); go_simp)
          have QST := hid (show (Instr.storeAt 33 (.pointer (some ⟨p, 0, none⟩)) (.slice fa y.safe y.safe)).run Tryz.prog w6.drew = .ok () (w6.drew.setCell ⟨p, 0, none⟩ (.slice fa y.safe y.safe)) from by
            have hc : w6.drew.cell? ⟨p, 0, none⟩ = some (.slice fa y.b.length fc) := cell_of_heap (w := w6.drew) HV6.out 0
            have hz := frozen_of (w := w6.drew) HV6.out 0
            go_simp)
          have hS0 : Fr (fun _ => False) w6 w6.drew := (Fr.refl _ w6).drew
          refine hg_start (fun W => Fr (fun _ => False) w6 W) 16 mixed ?_
          refine hgt 0 74 kMove (.tmp 10) (.pointer (some ⟨p, 0, none⟩)) (by kernel_rfl) (by kernel_rfl) (by kernel_rfl) (by kernel_rfl) (by exact fun _ _ _ h => h) (by kernel_rfl) (by kernel_rfl) hS0 (fun o w' ho hs => ex_move ho (by kernel_rfl)) ?_
          refine hgt 1 75 kMove (.tmp 10) (.pointer (some ⟨p, 0, none⟩)) (by kernel_rfl) (by kernel_rfl) (by kernel_rfl) (by kernel_rfl) (by exact fun _ _ _ h => h) (by kernel_rfl) (by kernel_rfl) hS0 (fun o w' ho hs => ex_move ho (by kernel_rfl)) ?_
          refine hgt 2 76 kNil (.tmp 75) (.pointer (some ⟨p, 0, none⟩)) (by kernel_rfl) (by kernel_rfl) (by kernel_rfl) (by kernel_rfl) (by exact fun _ _ _ h => h) (by kernel_rfl) (by kernel_rfl) hS0 (fun o w' ho hs => ex_nil ho (by kernel_rfl)) ?_
          refine hgt 3 77 kFA (87, .tmp 76, 0) (.pointer (some ⟨p, 0, none⟩)) (by kernel_rfl) (by kernel_rfl) (by kernel_rfl) (by kernel_rfl) (by exact fun _ _ _ h => h) (by kernel_rfl) (by kernel_rfl) hS0 (fun o w' ho hs => ex_fa ho (by kernel_rfl) (PA0.out _)) ?_
          refine hgt 4 78 kLoad (33, .tmp 77) (.slice fa y.b.length fc) (by kernel_rfl) (by kernel_rfl) (by kernel_rfl) (by kernel_rfl) (by exact fun _ _ _ h => h) (by kernel_rfl) (by kernel_rfl) hS0 (fun o w' ho hs => ex_load ho (by kernel_rfl) (QL0.out _ hs)) ?_
          refine hgt 5 79 kMove (.tmp 10) (.pointer (some ⟨p, 0, none⟩)) (by kernel_rfl) (by kernel_rfl) (by kernel_rfl) (by kernel_rfl) (by exact fun _ _ _ h => h) (by kernel_rfl) (by kernel_rfl) hS0 (fun o w' ho hs => ex_move ho (by kernel_rfl)) ?_
          refine hgt 6 80 kNil (.tmp 79) (.pointer (some ⟨p, 0, none⟩)) (by kernel_rfl) (by kernel_rfl) (by kernel_rfl) (by kernel_rfl) (by exact fun _ _ _ h => h) (by kernel_rfl) (by kernel_rfl) hS0 (fun o w' ho hs => ex_nil ho (by kernel_rfl)) ?_
          refine hgt 7 81 kFA (87, .tmp 80, 1) (.pointer (some ⟨p, 1, none⟩)) (by kernel_rfl) (by kernel_rfl) (by kernel_rfl) (by kernel_rfl) (by exact fun _ _ _ h => h) (by kernel_rfl) (by kernel_rfl) hS0 (fun o w' ho hs => ex_fa ho (by kernel_rfl) (PA1.out _)) ?_
          refine hgt 8 82 kLoad (3, .tmp 81) (.int .i64 (y.safe : Int)) (by kernel_rfl) (by kernel_rfl) (by kernel_rfl) (by kernel_rfl) (by exact fun _ _ _ h => h) (by kernel_rfl) (by kernel_rfl) hS0 (fun o w' ho hs => ex_load ho (by kernel_rfl) (QL1.out _ hs)) ?_
          refine hgt 9 83 kMove (.tmp 10) (.pointer (some ⟨p, 0, none⟩)) (by kernel_rfl) (by kernel_rfl) (by kernel_rfl) (by kernel_rfl) (by exact fun _ _ _ h => h) (by kernel_rfl) (by kernel_rfl) hS0 (fun o w' ho hs => ex_move ho (by kernel_rfl)) ?_
          refine hgt 10 84 kNil (.tmp 83) (.pointer (some ⟨p, 0, none⟩)) (by kernel_rfl) (by kernel_rfl) (by kernel_rfl) (by kernel_rfl) (by exact fun _ _ _ h => h) (by kernel_rfl) (by kernel_rfl) hS0 (fun o w' ho hs => ex_nil ho (by kernel_rfl)) ?_
          refine hgt 11 85 kFA (87, .tmp 84, 1) (.pointer (some ⟨p, 1, none⟩)) (by kernel_rfl) (by kernel_rfl) (by kernel_rfl) (by kernel_rfl) (by exact fun _ _ _ h => h) (by kernel_rfl) (by kernel_rfl) hS0 (fun o w' ho hs => ex_fa ho (by kernel_rfl) (PA1.out _)) ?_
          refine hgt 12 86 kLoad (3, .tmp 85) (.int .i64 (y.safe : Int)) (by kernel_rfl) (by kernel_rfl) (by kernel_rfl) (by kernel_rfl) (by exact fun _ _ _ h => h) (by kernel_rfl) (by kernel_rfl) hS0 (fun o w' ho hs => ex_load ho (by kernel_rfl) (QL1.out _ hs)) ?_
          refine hgt 13 87 kSl (33, .tmp 78, none, some (.tmp 82), some (.tmp 86)) (.slice fa y.safe y.safe) (by kernel_rfl) (by kernel_rfl) (by kernel_rfl) (by kernel_rfl) (by exact fun _ _ _ h => h) (by kernel_rfl) (by kernel_rfl) hS0 (fun o w' ho hs => ex_sl (l := none) (h' := some (.int .i64 (y.safe : Int))) (m := some (.int .i64 (y.safe : Int))) ho (by kernel_rfl) (by kernel_rfl) (by kernel_rfl) (by kernel_rfl) (QSL.out _)) ?_
          refine hg1 14 (by kernel_rfl) ?_
          refine hg_val 88 kNil (.tmp 74) (.pointer (some ⟨p, 0, none⟩)) (by kernel_rfl) (fun o ho => ex_nil ho (by kernel_rfl)) (.inr hS0) ?_
          refine hg1 15 (by kernel_rfl) ?_
          refine hg_val 89 kFA (87, .tmp 88, 0) (.pointer (some ⟨p, 0, none⟩)) (by kernel_rfl) (fun o ho => ex_fa ho (by kernel_rfl) (PA0.out _)) (.inr hS0) ?_
          refine hg1 16 (by kernel_rfl) ?_
          refine hg_store 33 (.tmp 89) (.tmp 87) (.pointer (some ⟨p, 0, none⟩)) (.slice fa y.safe y.safe) (by kernel_rfl) (by kernel_rfl) (by kernel_rfl) (QST.out) (.inl rfl) ?_
          refine hg_done (by kernel_rfl) ?_
          have hpy : putFil f p y p = some y := by unfold putFil; rw [if_pos rfl]
          have hq7 := HQ6.out.cut (p := p) (x := y) hpy HV6.out HB6.out hyl
          have hf7 : Fr (· = p) w6 (w6.drew.setCell ⟨p, 0, none⟩ (.slice fa y.safe y.safe)) := ((Fr.refl (· = p) w6).drew).setCell (fun _ => rfl) _
          have he7 : putFil (putFil f p y) p ⟨y.b.take y.safe, y.safe⟩ = putFil f p (cutF cuts i x) := by
            rw [putFil_twice, HYB.out, HYS.out]
            rfl
          have HQ7 := hid (show FSo (w6.drew.setCell ⟨p, 0, none⟩ (.slice fa y.safe y.safe)) F D sb { ss with files := putFil f p (cutF cuts i x) } m1 m2 (.slice none 0 0) from by rw [← he7]; exact hq7)
          have HF7 := hid (HF6.out.trans (hf7.mono (fun k _ e => .inl (e ▸ hFp))))
          have HM7 := hid (HM6.out.fr hf7 (fun e => hmdp e.symm))
          clear hq7 hf7 he7 hpy PA0 PA1 QL0 QL1 QSL QST hS0 HQ6 HF6 HM6 HV6 HB6
          go_wp2_with fail
          go_roundg (ss.safe.length - (i + 1))
          case measure => omega
          case rel =>
            refine ⟨i + 1, dput dn p true, p :: done, putFil f p (cutF cuts i x), by go_num, hlt, Nat.le_refl _, hid ((upGo_new HPT.out hp HX.out).symm.trans HU.out), hid (HD.out.put HM.out.nodup p), hid (fun a ha => ?_), HM7, hid ⟨putFil_ok HFO.out.1 (cutF_ok hxo), fun q hq => putFil_some (HFO.out.2 q hq)⟩, HQ7, HF7⟩
            have h1 : a.1 ∈ (dput dn p true).map Prod.fst := List.mem_map.2 ⟨a, ha, rfl⟩
            rw [dput_keys] at h1
            have h2 : a.1 ∈ dn.map Prod.fst ∨ a.1 = p := by
              split at h1
              · exact .inl h1
              · simpa using h1
            rcases h2 with h2 | h2
            · obtain ⟨b, hb, he⟩ := List.mem_map.1 h2
              rw [← he]
              exact putFil_some (HDI.out b hb)
            · rw [h2]
              unfold putFil
              rw [if_pos rfl]
              rfl
        · have hc' : ¬ ((i : Int) < (cuts.length : Int)) := by omega
          go_wp2_with (at_mapUpdate; refine wpl_updateG (v := true) rfl rfl keyFP r_doneM HM.out HGS.out HGK.out rfl rfl rfl ?_; intro w5 hm5 hf5 hs5; have HM5 := hid hm5; have HF5 := hid hf5; clear hm5 hf5 hs5)
          have HQ5 := hid (HQR.out.fr HF5.out (fun k hk e => by have := HLT.out k hk; omega))
          have HV5 := hid (HF5.out.heap HV.out hmdp)
          have HB5 := hid (HBS.out.dep HF5.out (fun k hk _ e => by have := HLT.out k hk; omega))
          have HF5' := hid (HFR.out.trans (HF5.out.mono (fun k _ e => .inr e)))
          have hcl := cutN_le (cuts := cuts) (i := i) hxo.1
          have hcn : cutN cuts i x = x.safe := by
            unfold cutN
            rw [List.getElem?_eq_none (by omega)]
            rfl
          obtain ⟨w6, hw6⟩ : ∃ w6, w5 = w6 := ⟨_, rfl⟩
          have HV6 := hid (show w6.heap[p]? = some (.cells #[.slice fa x.b.length fc, .int .i64 (cutN cuts i x : Int)] 87 (0, 0)) from by rw [← hw6, hcn]; exact HV5.out)
          have HB6 := hid (show Bs (fun k => D k → F k) w6 (.slice fa x.b.length fc) x.b from by rw [← hw6]; exact HB5.out)
          have HQ6 := hid (show FSo w6 F D sb { ss with files := putFil f p ⟨x.b, cutN cuts i x⟩ } m1 m2 (.slice none 0 0) from by
            rw [← hw6]
            exact HQ5.out.addFile hFp (by rw [hcn]; exact HV5.out) HB5.out)
          have HF6 := hid (show Fr (fun k => F k ∨ k = md) w4 w6 from by rw [← hw6]; exact HF5'.out)
          have HM6 := hid (show MapG ekP Value.bool w6 md (dput dn p true) from by rw [← hw6]; exact HM5.out)
          rw [hw6]
          clear hcn hw6 HQ5 HV5 HB5 HF5' HM5 HF5
          have hfit1 := hfit.1
          have hfit2 := hfit.2.1
          have hfit3 := hfit.2.2
          obtain ⟨y, hy⟩ : ∃ y : Fil, y = ⟨x.b, cutN cuts i x⟩ := ⟨_, rfl⟩
          have hyb : y.b = x.b := by rw [hy]
          have hys : y.safe = cutN cuts i x := by rw [hy]
          rw [← hyb] at HV6 HB6 hfit1 hfit2
          rw [← hys] at HV6
          rw [← hy] at HQ6
          have hyl : y.safe ≤ y.b.length := by rw [hys, hyb]; exact hcl
          have HYB := hid hyb
          have HYS := hid hys
          clear hyb hys hy
          have PA0 := hid (show ∀ W, (Instr.fieldAt 87 (.pointer (some ⟨p, 0, none⟩)) 0).run Tryz.prog W = .ok (.pointer (some ⟨p, 0, none⟩)) W from fun W => by go_simp)
          have PA1 := hid (show ∀ W, (Instr.fieldAt 87 (.pointer (some ⟨p, 0, none⟩)) 1).run Tryz.prog W = .ok (.pointer (some ⟨p, 1, none⟩)) W from fun W => by go_simp)
          have QL0 := hid (show ∀ W, Fr (fun _ => False) w6 W → (Instr.loadAt 33 (.pointer (some ⟨p, 0, none⟩))).run Tryz.prog W = .ok (.slice fa y.b.length fc) W from fun W hW => by have hc : W.cell? ⟨p, 0, none⟩ = some (.slice fa y.b.length fc) := cell_of_heap (hW.heap HV6.out id) 0; go_simp)
          have QL1 := hid (show ∀ W, Fr (fun _ => False) w6 W → (Instr.loadAt 3 (.pointer (some ⟨p, 1, none⟩))).run Tryz.prog W = .ok (.int .i64 (y.safe : Int)) W from fun W hW => by have hc : W.cell? ⟨p, 1, none⟩ = some (.int .i64 (y.safe : Int)) := cell_of_heap (hW.heap HV6.out id) 1; go_simp)
          have QSL := hid (show ∀ W, (Instr.sliceAt 33 (.slice fa y.b.length fc) none (some (.int .i64 (y.safe : Int))) (some (.int .i64 (y.safe : Int)))).run Tryz.prog W = .ok (.slice fa y.safe y.safe) W from fun W => by have hnf : ¬ fc < y.safe := (by omega); go_simp)
          have QST := hid (show (Instr.storeAt 33 (.pointer (some ⟨p, 0, none⟩)) (.slice fa y.safe y.safe)).run Tryz.prog w6.drew = .ok () (w6.drew.setCell ⟨p, 0, none⟩ (.slice fa y.safe y.safe)) from by
            have hc : w6.drew.cell? ⟨p, 0, none⟩ = some (.slice fa y.b.length fc) := cell_of_heap (w := w6.drew) HV6.out 0
            have hz := frozen_of (w := w6.drew) HV6.out 0
            go_simp)
          have hS0 : Fr (fun _ => False) w6 w6.drew := (Fr.refl _ w6).drew
          refine hg_start (fun W => Fr (fun _ => False) w6 W) 16 mixed ?_
          refine hgt 0 74 kMove (.tmp 10) (.pointer (some ⟨p, 0, none⟩)) (by kernel_rfl) (by kernel_rfl) (by kernel_rfl) (by kernel_rfl) (by exact fun _ _ _ h => h) (by kernel_rfl) (by kernel_rfl) hS0 (fun o w' ho hs => ex_move ho (by kernel_rfl)) ?_
          refine hgt 1 75 kMove (.tmp 10) (.pointer (some ⟨p, 0, none⟩)) (by kernel_rfl) (by kernel_rfl) (by kernel_rfl) (by kernel_rfl) (by exact fun _ _ _ h => h) (by kernel_rfl) (by kernel_rfl) hS0 (fun o w' ho hs => ex_move ho (by kernel_rfl)) ?_
          refine hgt 2 76 kNil (.tmp 75) (.pointer (some ⟨p, 0, none⟩)) (by kernel_rfl) (by kernel_rfl) (by kernel_rfl) (by kernel_rfl) (by exact fun _ _ _ h => h) (by kernel_rfl) (by kernel_rfl) hS0 (fun o w' ho hs => ex_nil ho (by kernel_rfl)) ?_
          refine hgt 3 77 kFA (87, .tmp 76, 0) (.pointer (some ⟨p, 0, none⟩)) (by kernel_rfl) (by kernel_rfl) (by kernel_rfl) (by kernel_rfl) (by exact fun _ _ _ h => h) (by kernel_rfl) (by kernel_rfl) hS0 (fun o w' ho hs => ex_fa ho (by kernel_rfl) (PA0.out _)) ?_
          refine hgt 4 78 kLoad (33, .tmp 77) (.slice fa y.b.length fc) (by kernel_rfl) (by kernel_rfl) (by kernel_rfl) (by kernel_rfl) (by exact fun _ _ _ h => h) (by kernel_rfl) (by kernel_rfl) hS0 (fun o w' ho hs => ex_load ho (by kernel_rfl) (QL0.out _ hs)) ?_
          refine hgt 5 79 kMove (.tmp 10) (.pointer (some ⟨p, 0, none⟩)) (by kernel_rfl) (by kernel_rfl) (by kernel_rfl) (by kernel_rfl) (by exact fun _ _ _ h => h) (by kernel_rfl) (by kernel_rfl) hS0 (fun o w' ho hs => ex_move ho (by kernel_rfl)) ?_
          refine hgt 6 80 kNil (.tmp 79) (.pointer (some ⟨p, 0, none⟩)) (by kernel_rfl) (by kernel_rfl) (by kernel_rfl) (by kernel_rfl) (by exact fun _ _ _ h => h) (by kernel_rfl) (by kernel_rfl) hS0 (fun o w' ho hs => ex_nil ho (by kernel_rfl)) ?_
          refine hgt 7 81 kFA (87, .tmp 80, 1) (.pointer (some ⟨p, 1, none⟩)) (by kernel_rfl) (by kernel_rfl) (by kernel_rfl) (by kernel_rfl) (by exact fun _ _ _ h => h) (by kernel_rfl) (by kernel_rfl) hS0 (fun o w' ho hs => ex_fa ho (by kernel_rfl) (PA1.out _)) ?_
          refine hgt 8 82 kLoad (3, .tmp 81) (.int .i64 (y.safe : Int)) (by kernel_rfl) (by kernel_rfl) (by kernel_rfl) (by kernel_rfl) (by exact fun _ _ _ h => h) (by kernel_rfl) (by kernel_rfl) hS0 (fun o w' ho hs => ex_load ho (by kernel_rfl) (QL1.out _ hs)) ?_
          refine hgt 9 83 kMove (.tmp 10) (.pointer (some ⟨p, 0, none⟩)) (by kernel_rfl) (by kernel_rfl) (by kernel_rfl) (by kernel_rfl) (by exact fun _ _ _ h => h) (by kernel_rfl) (by kernel_rfl) hS0 (fun o w' ho hs => ex_move ho (by kernel_rfl)) ?_
          refine hgt 10 84 kNil (.tmp 83) (.pointer (some ⟨p, 0, none⟩)) (by kernel_rfl) (by kernel_rfl) (by kernel_rfl) (by kernel_rfl) (by exact fun _ _ _ h => h) (by kernel_rfl) (by kernel_rfl) hS0 (fun o w' ho hs => ex_nil ho (by kernel_rfl)) ?_
          refine hgt 11 85 kFA (87, .tmp 84, 1) (.pointer (some ⟨p, 1, none⟩)) (by kernel_rfl) (by kernel_rfl) (by kernel_rfl) (by kernel_rfl) (by exact fun _ _ _ h => h) (by kernel_rfl) (by kernel_rfl) hS0 (fun o w' ho hs => ex_fa ho (by kernel_rfl) (PA1.out _)) ?_
          refine hgt 12 86 kLoad (3, .tmp 85) (.int .i64 (y.safe : Int)) (by kernel_rfl) (by kernel_rfl) (by kernel_rfl) (by kernel_rfl) (by exact fun _ _ _ h => h) (by kernel_rfl) (by kernel_rfl) hS0 (fun o w' ho hs => ex_load ho (by kernel_rfl) (QL1.out _ hs)) ?_
          refine hgt 13 87 kSl (33, .tmp 78, none, some (.tmp 82), some (.tmp 86)) (.slice fa y.safe y.safe) (by kernel_rfl) (by kernel_rfl) (by kernel_rfl) (by kernel_rfl) (by exact fun _ _ _ h => h) (by kernel_rfl) (by kernel_rfl) hS0 (fun o w' ho hs => ex_sl (l := none) (h' := some (.int .i64 (y.safe : Int))) (m := some (.int .i64 (y.safe : Int))) ho (by kernel_rfl) (by kernel_rfl) (by kernel_rfl) (by kernel_rfl) (QSL.out _)) ?_
          refine hg1 14 (by kernel_rfl) ?_
          refine hg_val 88 kNil (.tmp 74) (.pointer (some ⟨p, 0, none⟩)) (by kernel_rfl) (fun o ho => ex_nil ho (by kernel_rfl)) (.inr hS0) ?_
          refine hg1 15 (by kernel_rfl) ?_
          refine hg_val 89 kFA (87, .tmp 88, 0) (.pointer (some ⟨p, 0, none⟩)) (by kernel_rfl) (fun o ho => ex_fa ho (by kernel_rfl) (PA0.out _)) (.inr hS0) ?_
          refine hg1 16 (by kernel_rfl) ?_
          refine hg_store 33 (.tmp 89) (.tmp 87) (.pointer (some ⟨p, 0, none⟩)) (.slice fa y.safe y.safe) (by kernel_rfl) (by kernel_rfl) (by kernel_rfl) (QST.out) (.inl rfl) ?_
          refine hg_done (by kernel_rfl) ?_
          have hpy : putFil f p y p = some y := by unfold putFil; rw [if_pos rfl]
          have hq7 := HQ6.out.cut (p := p) (x := y) hpy HV6.out HB6.out hyl
          have hf7 : Fr (· = p) w6 (w6.drew.setCell ⟨p, 0, none⟩ (.slice fa y.safe y.safe)) := ((Fr.refl (· = p) w6).drew).setCell (fun _ => rfl) _
          have he7 : putFil (putFil f p y) p ⟨y.b.take y.safe, y.safe⟩ = putFil f p (cutF cuts i x) := by
            rw [putFil_twice, HYB.out, HYS.out]
            rfl
          have HQ7 := hid (show FSo (w6.drew.setCell ⟨p, 0, none⟩ (.slice fa y.safe y.safe)) F D sb { ss with files := putFil f p (cutF cuts i x) } m1 m2 (.slice none 0 0) from by rw [← he7]; exact hq7)
          have HF7 := hid (HF6.out.trans (hf7.mono (fun k _ e => .inl (e ▸ hFp))))
          have HM7 := hid (HM6.out.fr hf7 (fun e => hmdp e.symm))
          clear hq7 hf7 he7 hpy PA0 PA1 QL0 QL1 QSL QST hS0 HQ6 HF6 HM6 HV6 HB6
          go_wp2_with fail
          go_roundg (ss.safe.length - (i + 1))
          case measure => omega
          case rel =>
            refine ⟨i + 1, dput dn p true, p :: done, putFil f p (cutF cuts i x), by go_num, hlt, Nat.le_refl _, hid ((upGo_new HPT.out hp HX.out).symm.trans HU.out), hid (HD.out.put HM.out.nodup p), hid (fun a ha => ?_), HM7, hid ⟨putFil_ok HFO.out.1 (cutF_ok hxo), fun q hq => putFil_some (HFO.out.2 q hq)⟩, HQ7, HF7⟩
            have h1 : a.1 ∈ (dput dn p true).map Prod.fst := List.mem_map.2 ⟨a, ha, rfl⟩
            rw [dput_keys] at h1
            have h2 : a.1 ∈ dn.map Prod.fst ∨ a.1 = p := by
              split at h1
              · exact .inl h1
              · simpa using h1
            rcases h2 with h2 | h2
            · obtain ⟨b, hb, he⟩ := List.mem_map.1 h2
              rw [← he]
              exact putFil_some (HDI.out b hb)
            · rw [h2]
              unfold putFil
              rw [if_pos rfl]
              rfl
    · obtain rfl : i = ss.safe.length := by omega
      obtain ⟨es, clk, hmes, hme2, hme3, hme4, hme5⟩ := id HQR.out.safe
      have c2r : wr.cell? ⟨sb, 2, none⟩ = some (.map (some m2)) := cell_of_heap HQR.out.head 2
      have HCL := hid (Tryz.maps_Clone m2 es clk wr hmes)
      have hba : Below wr.heap.size wr (wr.alloc (.map es clk)) := (Below.refl _ _).alloc (Nat.le_refl _) _
      have HME := hid (show MapG Value.string ekP (wr.alloc (.map es clk)) wr.heap.size ss.safe from ⟨es, clk, heap_alloc_new wr _, hme2, hme3, hme4, hme5⟩)
      have HQG := hid (HQR.out.growF.below hba)
      have HBA := hid hba
      clear hmes hme2 hme3 hme4 hme5 hba
      go_wp2_with fail
      refine HCL.out.mono ?_
      rintro e w6 ⟨rfl, rfl⟩
      generalize hwn : wr.alloc (.map es clk) = wn at *
      have c1n : wn.cell? ⟨sb, 1, none⟩ = some (.map (some m1)) := cell_of_heap HQG.out.head 1
      have c5n : wn.cell? ⟨sb, 5, none⟩ = some (.bool ss.armed) := cell_of_heap HQG.out.head 5
      have c6n : wn.cell? ⟨sb, 6, none⟩ = some (.bool ss.down) := cell_of_heap HQG.out.head 6
      have f1n := frozen_of HQG.out.head 1
      have f5n := frozen_of HQG.out.head 5
      have f6n := frozen_of HQG.out.head 6
      go_wp2
      go_ret
      have hff : f = upGo cuts (ptrsF ss.safe) 0 [] ss.files := by
        have h9 := HU.out
        rwa [upGo_end (by rw [ptrsF_length]; exact Nat.le_refl _)] at h9
      obtain ⟨w9, hw9⟩ : ∃ w9, (((wn.setCell ⟨sb, 1, none⟩ (.map (some wr.heap.size))).setCell ⟨sb, 5, none⟩ (.bool false)).setCell ⟨sb, 6, none⟩ (.bool false)) = w9 := ⟨_, rfl⟩
      have hf9 : Fr (· = sb) wn w9 := by rw [← hw9]; exact (((Fr.refl (· = sb) wn).setCell (fun _ => rfl) _).setCell (fun _ => rfl) _).setCell (fun _ => rfl) _
      have hh9 : w9.heap[sb]? = some (.cells (fsC { ss with files := f, seen := ss.safe, armed := false, down := false } wr.heap.size m2 (.slice none 0 0)) 62 (0, 0)) := by
        rw [← hw9]
        exact (heap_store (heap_store (heap_store HQG.out.head 1 (.map (some wr.heap.size))) 5 (.bool false)) 6 (.bool false)).trans rfl
      rw [hw9]
      have hq9 := HQG.out.setHead (st' := { ss with files := f, seen := ss.safe, armed := false, down := false }) (m1' := wr.heap.size) (m2' := m2) (ch' := .slice none 0 0) hf9 hh9 rfl (.inr (Nat.le_refl _)) HQG.out.f2 (fun e => by have := HQR.out.safe.lt; omega) HME.out HQG.out.safe HQG.out.own HQG.out.hm
      rw [hff] at hq9
      have hfin := hq9.shut HUO.out
      refine ⟨rfl, _, _, hfin, ?_, ?_, ?_⟩
      · have h1 : Fr F w wd := (HF.out.trans' (Fr.of_below (by rw [hmd]; exact HBD.out) : Fr (fun _ => False) w2 wd) (fun _ _ h => h.elim))
        have h2 : Fr F w w4 := h1.trans' (Fr.of_below HB4.out : Fr (fun _ => False) wd w4) (fun _ _ h => h.elim)
        have h3 : Fr F w wr := h2.trans' HFR.out (fun k hk h => h.elim id (fun e => by omega))
        have h4 : Fr F w wn := h3.trans' (Fr.of_below HBA.out : Fr (fun _ => False) wr wn) (fun _ _ h => h.elim)
        exact h4.trans' hf9 (fun k hk e => by rw [e]; exact HO.out.self)
      · intro k hk
        have := HFR.out.size
        have := HB4.out.size
        have := HBD.out.size
        exact hk.1.imp id (fun h => by omega)
      · intro k hk
        have := HFR.out.size
        have := HB4.out.size
        have := HBD.out.size
        exact hk.1.imp id (fun h => by omega)
end Go.Proofs.YtgehalfnpbjjcaaGreat
