/- simfs: named, find, step, do. -/
import Derived.Test.YtgehalfnpbjjcaaGreatSimA
namespace Go.Proofs.YtgehalfnpbjjcaaGreat
open Go Go.RowKit Go.Sort
def namesF (st : FSt) (l : List ByteArray) : Int := if st.down then 12 else if l.all nameR then 0 else 10
theorem row_string {S : Nat → Prop} {w : World} {a : Option Addr} {n c : Nat} {l : List ByteArray} (h : Row S w (.slice a n c) n 1 (l.map Value.string)) {j : Nat} {s : ByteArray} (hs : l[j]? = some s) : ∃ b off, a = some ⟨b, off, none⟩ ∧ b < w.heap.size ∧ w.cell? ⟨b, off + j, none⟩ = some (.string s) := by
  obtain ⟨h0, a', c', hv, _, _, h4⟩ := h
  injection hv with e1 e2 e3
  subst e1 e3
  have hj := (List.getElem?_eq_some_iff.1 hs).1
  obtain ⟨b, off, rfl, hb, _, hc⟩ := h4.resolve_left (by rw [List.length_map] at h0; omega)
  exact ⟨b, off, rfl, hb, hc j _ (by rw [List.getElem?_map, hs]; rfl)⟩
set_option maxRecDepth 100000 in
theorem fsNamed_ok {F D S : Nat → Prop} {sb : Nat} {st : FSt} (w : World) (h : FSr w F D sb st) (v : Value) (l : List ByteArray) (hv : Row S w v l.length 1 (l.map Value.string)) :
    Calls Tryz.prog 62 #[.pointer (some ⟨sb, 0, none⟩), v] w fun e w' => e = .returned (.int .i64 (namesF st l)) ∧ Below w.heap.size w w' := by
  have HV := hid hv
  have HI := hid (fsIs_ok w h)
  obtain ⟨_, a, c, rfl, ⟨hl1, hl2, hl3⟩, _⟩ := hv
  unfold maxLen at hl3
  unfold isF at HI
  unfold namesF
  cases hd : st.down with
  | true =>
    rw [hd] at HI
    simp only [if_true] at HI ⊢
    go_enter Tryz.func62, Tryz.ntmps62
    go_wp2_with (go_at_call 53; refine HI.out.mono ?_; rintro e w1 ⟨rfl, rfl⟩)
    go_ret
    exact ⟨rfl, Below.refl _ _⟩
  | false =>
    rw [hd] at HI
    simp only [Bool.false_eq_true, if_false] at HI ⊢
    obtain ⟨r, hr⟩ : ∃ r : Int, r = if l.all nameR then 0 else 10 := ⟨_, rfl⟩
    rw [← hr]
    have HR := hid hr
    clear hr
    go_enter Tryz.func62, Tryz.ntmps62
    go_wp2_with (go_at_call 53; refine HI.out.mono ?_; rintro e w1 ⟨rfl, rfl⟩)
    clear HI
    go_loopg [15] l.length (fun kx s15 wr => ∃ j : Nat, s15 = .int .i64 j ∧ j ≤ l.length ∧ l.length - j ≤ kx ∧ Hid ((l.take j).all nameR = true) ∧ Hid (Below w1.heap.size w1 wr))
    case atStart => exact ⟨0, rfl, Nat.zero_le _, Nat.le_refl _, hid rfl, hid (Below.refl _ _)⟩
    case round =>
      obtain ⟨j, rfl, hj, hkx, HA, HB⟩ := hrel
      by_cases hlt : j < l.length
      · obtain ⟨s, hs⟩ : ∃ s, l[j]? = some s := ⟨l[j], by simp [hlt]⟩
        obtain ⟨b, off, rfl, hb, hc⟩ := row_string (HV.out.fr (Fr.of_below HB.out : Fr (fun _ => False) _ _) (fun _ _ h => h.elim)) hs
        have HS := hid hs
        have hlt' : (j : Int) < (l.length : Int) := by omega
        have HN := hid (fsName_ok s wr)
        have htk : (l.take (j + 1)).all nameR = nameR s := by
          rw [List.take_add_one, hs, List.all_append, HA.out]; simp
        have HTK := hid htk
        clear hs htk
        cases hn : nameR s with
        | true =>
          rw [hn] at HN HTK
          go_wp2_with (go_at_call 76; refine HN.out.mono ?_; rintro e w2 ⟨rfl, hb2⟩; have B2 := hid hb2; clear hb2)
          go_roundg (l.length - (j + 1))
          case measure => omega
          case rel => exact ⟨j + 1, by go_num, hlt, Nat.le_refl _, HTK, hid (HB.out.trans (B2.out.mono HB.out.size))⟩
        | false =>
          rw [hn] at HN HTK
          have hall : l.all nameR = false := by
            rw [← List.take_append_drop (j + 1) l, List.all_append, HTK.out]; rfl
          have HALL := hid hall
          clear hall
          go_wp2_with (go_at_call 76; refine HN.out.mono ?_; rintro e w2 ⟨rfl, hb2⟩; have B2 := hid hb2; clear hb2)
          go_ret
          exact ⟨by rw [HR.out, HALL.out]; rfl, HB.out.trans (B2.out.mono HB.out.size)⟩
      · obtain rfl : j = l.length := by omega
        have hall : l.all nameR = true := by have := HA.out; rwa [List.take_of_length_le (Nat.le_refl _)] at this
        have HALL := hid hall
        clear hall
        go_wp2
        go_ret
        exact ⟨by rw [HR.out, HALL.out]; rfl, HB.out⟩
theorem ekP_def (p : Nat) : ekP p = .pointer (some ⟨p, 0, none⟩) := rfl
/-- What find answers. -/
def findC (r : Int × Option Nat) : Value := .tuple #[.pointer (r.2.map fun p => ⟨p, 0, none⟩), .int .i64 r.1]
set_option maxRecDepth 100000 in
theorem fsFind_ok {F D : Nat → Prop} {sb : Nat} {st : FSt} (w : World) (h : FSr w F D sb st) (s : ByteArray) :
    Calls Tryz.prog 40 #[.pointer (some ⟨sb, 0, none⟩), .string s] w fun e w' => e = .returned (findC (findF st s)) ∧ Below w.heap.size w w' := by
  have hb0 : Below w.heap.size w (w.alloc (.cells #[.string s] 9 (0, 0))) := (Below.refl _ _).alloc (Nat.le_refl _) _
  have hrow : Row (fun _ => False) (w.alloc (.cells #[.string s] 9 (0, 0))) (.slice (some ⟨w.heap.size, 0, none⟩) 1 1) 1 1 ([s].map Value.string) :=
    ⟨rfl, _, 1, rfl, ⟨by omega, by omega, by unfold maxLen; omega⟩, (fun h => nomatch h), .inr ⟨w.heap.size, 0, rfl, by simp, id, fun j x hx => by rw [cell_of_heap (heap_alloc_new w _), Nat.zero_add]; simpa using hx⟩⟩
  have HN := hid (fsNamed_ok _ (h.below hb0) _ [s] hrow)
  have HL := hid h
  clear hrow
  unfold findF
  unfold namesF at HN
  simp only [List.all_cons, List.all_nil, Bool.and_true] at HN
  cases hd : st.down with
  | true =>
    rw [hd] at HN
    simp only [if_true] at HN ⊢
    go_enter Tryz.func40, Tryz.ntmps40
    go_wp2_with (go_at_call 62; refine HN.out.mono ?_; rintro e w1 ⟨rfl, hb1⟩)
    go_ret2
    exact ⟨rfl, Below.below hb0 hb1⟩
  | false =>
    rw [hd] at HN
    simp only [Bool.false_eq_true, if_false] at HN ⊢
    cases hn : nameR s with
    | false =>
      rw [hn] at HN
      simp only [Bool.false_eq_true, if_false] at HN ⊢
      go_enter Tryz.func40, Tryz.ntmps40
      go_wp2_with (go_at_call 62; refine HN.out.mono ?_; rintro e w1 ⟨rfl, hb1⟩)
      go_ret2
      exact ⟨rfl, Below.below hb0 hb1⟩
    | true =>
      rw [hn] at HN
      simp only [if_true] at HN ⊢
      have PREP := hid (show ∀ w1, Below (w.alloc (.cells #[.string s] 9 (0, 0))).heap.size (w.alloc (.cells #[.string s] 9 (0, 0))) w1 → ∃ m1, w1.cell? ⟨sb, 1, none⟩ = some (.map (some m1)) ∧ (Instr.lookup 54 (.map (some m1)) (.string s) true).run Tryz.prog w1 = .ok (match dget st.seen s with | some p => .tuple #[.pointer (some ⟨p, 0, none⟩), .bool true] | none => .tuple #[.pointer none, .bool false]) w1 from fun w1 hb1 => by
        obtain ⟨m1, m2, ca, cc, ho⟩ := (HL.out.below (Below.below hb0 hb1)).lies
        have hlk := run_lookupG (ok := true) (keyS (P := Tryz.prog) (tk := 9) (fun w => run_underlying Tryz.underlying9 w)) (fun w => run_underlying Tryz.underlying54 w) (te := 73) (z := .pointer none) (fun _ => by kernel_rfl) ho.seen (fun _ _ => trivial) s trivial
        refine ⟨m1, cell_of_heap ho.head 1, hlk.trans ?_⟩
        cases dget st.seen s <;> rfl)
      clear HL
      cases hg : dget st.seen s with
      | none =>
        rw [hg] at PREP
        go_enter Tryz.func40, Tryz.ntmps40
        go_wp2_with (go_at_call 62; refine HN.out.mono ?_; rintro e w1 ⟨rfl, hb1⟩; obtain ⟨m1, c1, hlk⟩ := PREP.out _ hb1; have B1 := hid (Below.below hb0 hb1); clear hb1)
        go_ret2
        exact ⟨rfl, B1.out⟩
      | some p =>
        rw [hg] at PREP
        go_enter Tryz.func40, Tryz.ntmps40
        go_wp2_with (go_at_call 62; refine HN.out.mono ?_; rintro e w1 ⟨rfl, hb1⟩; obtain ⟨m1, c1, hlk⟩ := PREP.out _ hb1; have B1 := hid (Below.below hb0 hb1); clear hb1)
        go_ret2
        exact ⟨rfl, B1.out⟩
end Go.Proofs.YtgehalfnpbjjcaaGreat
/- simfs: do, change, step. -/
namespace Go.Proofs.YtgehalfnpbjjcaaGreat
open Go Go.RowKit Go.Sort
theorem keyNm : KeyG Tryz.prog 9 Value.string (fun _ _ => True) := keyS (fun w => run_underlying Tryz.underlying9 w)
theorem r_names (w : World) : (underlying 54).run Tryz.prog w = .ok (.map 9 73) w := run_underlying Tryz.underlying54 w
theorem toList_empty {s : ByteArray} : (s.toList == []) = decide (s = ByteArray.empty) := by
  have h : ([] : List UInt8) = ByteArray.empty.toList := by rw [ByteArray.toList_eq]; rfl
  rw [h, ← beq_toListBytes, Bool.eq_iff_iff, MapKept.bytes_beq, decide_eq_true_eq]
set_option maxRecDepth 100000 in
theorem fsDo_ok (w : World) (m : Nat) (d : Dir) (c : Chg) (h : MapG Value.string ekP w m d) :
    Calls Tryz.prog 72 #[.map (some m), .agg (chgC c).toArray] w fun e w' => e = .returned (.tuple #[]) ∧ MapG Value.string ekP w' m (doF d c) ∧ Fr (· = m) w w' := by
  obtain ⟨nm, src, dst⟩ := c
  have hml := h.lt
  have HM := hid (show MapG Value.string ekP (w.alloc (.cells #[.string nm, .string src, .pointer (dst.map fun p => ⟨p, 0, none⟩)] 75)) m d from h.fr ((Fr.refl (fun _ => False) w).alloc _) id)
  have HF := hid (show Fr (· = m) w (w.alloc (.cells #[.string nm, .string src, .pointer (dst.map fun p => ⟨p, 0, none⟩)] 75)) from (Fr.refl _ w).alloc _)
  have HB := hid (heap_alloc_new w (.cells #[.string nm, .string src, .pointer (dst.map fun p => ⟨p, 0, none⟩)] 75))
  have HNE := hid (show w.heap.size ≠ m by omega)
  have he := toList_empty (s := src)
  clear h hml
  show Calls Tryz.prog 72 #[.map (some m), .agg #[.string nm, .string src, .pointer (dst.map fun p => ⟨p, 0, none⟩)]] w _
  unfold doF
  by_cases hsrc : src = ByteArray.empty
  · rw [decide_eq_true hsrc] at he
    simp only [if_pos hsrc]
    clear hsrc
    cases dst with
    | none =>
      simp only [Option.map_none] at *
      go_enter Tryz.func72, Tryz.ntmps72
      go_wp2_with (at_delete; refine wpl_deleteG rfl rfl keyNm r_names HM.out (fun _ _ => trivial) trivial rfl rfl ?_; intro w2 hm2 hf2 hs2; have HM2 := hid hm2; have HF2 := hid hf2; clear hm2 hf2 hs2)
      refine bodyPost_ret (results_none rfl _ _ _) rfl ?_
      exact ⟨rfl, HM2.out, HF.out.trans HF2.out⟩
    | some p =>
      simp only [Option.map_some] at *
      go_enter Tryz.func72, Tryz.ntmps72
      go_wp2_with (at_mapUpdate; refine wpl_updateG (v := p) rfl rfl keyNm r_names HM.out (fun _ _ => trivial) trivial rfl rfl rfl ?_; intro w2 hm2 hf2 hs2; have HM2 := hid hm2; have HF2 := hid hf2; clear hm2 hf2 hs2)
      go_end0
      exact ⟨rfl, HM2.out, HF.out.trans HF2.out⟩
  · rw [decide_eq_false hsrc] at he
    simp only [if_neg hsrc]
    clear hsrc
    cases dst with
    | none =>
      simp only [Option.map_none] at *
      go_enter Tryz.func72, Tryz.ntmps72
      go_wp2_with (first
        | (at_delete; refine wpl_deleteG rfl rfl keyNm r_names HM2.out (fun _ _ => trivial) trivial rfl rfl ?_; intro w3 hm3 hf3 hs3; have HM3 := hid hm3; have HF3 := hid hf3; clear hm3 hf3 hs3)
        | (at_delete; refine wpl_deleteG rfl rfl keyNm r_names HM.out (fun _ _ => trivial) trivial rfl rfl ?_; intro w2 hm2 hf2 hs2; have HM2 := hid hm2; have HF2 := hid hf2; have k0 := cell_of_heap (hf2.heap HB.out HNE.out) 0; have k2 := cell_of_heap (hf2.heap HB.out HNE.out) 2; simp at k0 k2; clear hm2 hf2 hs2))
      refine bodyPost_ret (results_none rfl _ _ _) rfl ?_
      exact ⟨rfl, HM3.out, (HF.out.trans HF2.out).trans HF3.out⟩
    | some p =>
      simp only [Option.map_some] at *
      go_enter Tryz.func72, Tryz.ntmps72
      go_wp2_with (first
        | (at_mapUpdate; refine wpl_updateG (v := p) rfl rfl keyNm r_names HM2.out (fun _ _ => trivial) trivial rfl rfl rfl ?_; intro w3 hm3 hf3 hs3; have HM3 := hid hm3; have HF3 := hid hf3; clear hm3 hf3 hs3)
        | (at_delete; refine wpl_deleteG rfl rfl keyNm r_names HM.out (fun _ _ => trivial) trivial rfl rfl ?_; intro w2 hm2 hf2 hs2; have HM2 := hid hm2; have HF2 := hid hf2; have k0 := cell_of_heap (hf2.heap HB.out HNE.out) 0; have k2 := cell_of_heap (hf2.heap HB.out HNE.out) 2; simp at k0 k2; clear hm2 hf2 hs2))
      go_end0
      exact ⟨rfl, HM3.out, (HF.out.trans HF2.out).trans HF3.out⟩
theorem chgC_one (l : List Chg) : ∀ u ∈ l.flatMap chgC, u.oneCell' = true := by
  intro u hu
  obtain ⟨c, _, h⟩ := List.mem_flatMap.1 hu
  simp only [chgC, List.mem_cons, List.not_mem_nil, or_false] at h
  rcases h with rfl | rfl | rfl <;> rfl
theorem etChg : ET Tryz.prog 55 75 3 40 (.agg #[.string ByteArray.empty, .string ByteArray.empty, .pointer none]) := ⟨Tryz.underlying55, by kernel_rfl, by kernel_rfl, by decide, by decide⟩
theorem frozen_of {w : World} {b t : Nat} {cs : Array Value} (h : w.heap[b]? = some (.cells cs t (0, 0))) (i : Nat) : w.frozen? ⟨b, i, none⟩ = false := frozen_of_row w _ _ _ _ h
set_option maxHeartbeats 2000000 in
set_option maxRecDepth 100000 in
/-- s.change(c). -/
theorem fsChange_ok {F D : Nat → Prop} {sb m1 m2 : Nat} {st : FSt} {ca : Option Addr} {cc : Nat} (w : World) (h : FSo w F D sb st m1 m2 (.slice ca st.chg.length cc)) (hw : ∀ k, w.heap.size ≤ k → F k) (hlen : st.chg.length ≤ 1000000) (c : Chg) :
    Calls Tryz.prog 49 #[.pointer (some ⟨sb, 0, none⟩), .agg (chgC c).toArray] w fun e w' => e = .returned (.tuple #[]) ∧ (∃ ca' cc', FSo w' F D sb (chgF st c) m1 m2 (.slice ca' (chgF st c).chg.length cc')) ∧ Fr F w w' := by
  obtain ⟨PV, hPV⟩ : ∃ PV, PV = Value.pointer (c.dst.map fun p => (⟨p, 0, none⟩ : Addr)) := ⟨_, rfl⟩
  have hcc : (chgC c).toArray = #[.string c.nm, .string c.src, PV] := by rw [hPV]; rfl
  have HPV := hid hPV
  clear hPV
  obtain ⟨w0, hw0⟩ : ∃ w0, w0 = w.alloc (.cells #[.string c.nm, .string c.src, PV] 75) := ⟨_, rfl⟩
  have hb0 : Below w.heap.size w w0 := by rw [hw0]; exact (Below.refl _ _).alloc (Nat.le_refl _) _
  have hbx : w0.heap[w.heap.size]? = some (.cells #[.string c.nm, .string c.src, PV] 75 (0, 0)) := by rw [hw0]; exact heap_alloc_new w _
  have h0 := h.below hb0
  have hs0 := hb0.size
  have hbl := lt_of_heap hbx
  have hm1 := h.seen.lt
  have hdo := fsDo_ok w0.drew m1 st.seen c (h0.seen.fr ((Fr.refl (fun _ => False) w0).drew) id)
  rw [hcc] at hdo ⊢
  have HDO := hid hdo
  have H0 := hid h0
  have HB0 := hid hb0
  have HBX := hid hbx
  have q0 := cell_of_heap hbx 0
  have q1 := cell_of_heap hbx 1
  have q2 := cell_of_heap hbx 2
  simp at q0 q1 q2
  have c1 : w0.cell? ⟨sb, 1, none⟩ = some (.map (some m1)) := cell_of_heap h0.head 1
  have mixed : Tryz.prog.follows .mixedOrders = true := by kernel_rfl
  clear hdo h0 hb0 hbx
  go_enter Tryz.func49, Tryz.ntmps49
  go_wp2_with fail
  rw [← hw0]
  clear hw0
  go_region_law_o ((go_simp; go_at_call 72; refine HDO.out.mono ?_; rintro e w2 ⟨rfl, hm2, hf2⟩; have HM2 := hid hm2; have HF2 := hid hf2; clear hm2 hf2))
  all_goals
    have h2 := (H0.out.fr ((Fr.refl (fun _ => False) w0).drew) (fun _ _ => id)).setSeen HF2.out HM2.out
    have hbx2 : w2.heap[w.heap.size]? = some (.cells #[.string c.nm, .string c.src, PV] 75 (0, 0)) := HF2.out.heap (a := w0.drew) HBX.out (by omega)
    have c3 : w2.cell? ⟨sb, 3, none⟩ = some (.slice ca st.chg.length cc) := cell_of_heap h2.head 3
    have r0 := cell_of_heap hbx2 0
    have r1 := cell_of_heap hbx2 1
    have r2 := cell_of_heap hbx2 2
    simp at r0 r1 r2
    have hba : Below w2.heap.size w2 (w2.alloc (.cells #[.string c.nm, .string c.src, PV] 75)).drew := ((Below.refl _ w2).alloc (Nat.le_refl _) _).drew
    have hrow : Row (fun _ => False) (w2.alloc (.cells #[.string c.nm, .string c.src, PV] 75)).drew (.slice (some ⟨w2.heap.size, 0, none⟩) 1 1) 1 3 (chgC c) := by
      refine ⟨rfl, _, 1, rfl, ⟨by omega, by omega, by unfold maxLen; omega⟩, (fun h => nomatch h), .inr ⟨w2.heap.size, 0, rfl, by show _ < (w2.alloc _).heap.size; simp, id, fun j x hx => ?_⟩⟩
      have h9 := cell_of_heap (w := (w2.alloc (.cells #[.string c.nm, .string c.src, PV] 75)).drew) (heap_alloc_new w2 (.cells #[.string c.nm, .string c.src, PV] 75)) j
      rw [Nat.zero_add]
      refine h9.trans ?_
      rw [← hcc]
      simpa using hx
    have HROW := hid hrow
    have ha := h2.below hba
    have HOWN := hid ha.own
    have HA := hid ha
    have H2 := hid h2
    have c3a : (w2.alloc (.cells #[.string c.nm, .string c.src, PV] 75)).cell? ⟨sb, 3, none⟩ = some (.slice ca st.chg.length cc) := cell_of_heap (w := w2.alloc (.cells #[.string c.nm, .string c.src, PV] 75)) ha.head 3
    have hone := hid (show ∀ u ∈ chgC c, u.oneCell' = true from fun u hu => chgC_one [c] u (by simpa using hu))
    have hsz2 : w0.heap.size ≤ w2.heap.size := HF2.out.size
    have HHD := hid (show ∀ w5, Fr (mine (.slice ca st.chg.length cc)) (w2.alloc (.cells #[.string c.nm, .string c.src, PV] 75)).drew w5 → w5.heap[sb]? = some (.cells (fsC { st with seen := doF st.seen c } m1 m2 (.slice ca st.chg.length cc)) 62 (0, 0)) from fun w5 hf5 => hf5.heap ha.head (fun hk => ha.ne_own ha.own hk rfl))
    clear h2 hbx2 hba hrow ha
    go_wp2_with fail
    go_region_law_o ((refine step_append (S := fun _ => False) (base := 0) rfl rfl etChg rfl HOWN.out rfl HROW.out hone.out (by omega) (Nat.zero_le _) ?_; intro a5 c5 w5 ho5 hf5 hm5; have HO5 := hid ho5; have HF5 := hid hf5; have HM5 := hid hm5; have f5 := frozen_of (HHD.out _ hf5) 3; have c5' : w5.cell? ⟨sb, 3, none⟩ = some (.slice ca st.chg.length cc) := cell_of_heap (HHD.out _ hf5) 3; clear ho5 hf5 hm5))
    all_goals
      go_end0
      have hln : (st.chg ++ [c]).length = st.chg.length + 1 := by simp
      have ho6 : Own w5 0 75 3 (.slice a5 (st.chg ++ [c]).length c5) (st.chg ++ [c]).length ((st.chg ++ [c]).flatMap chgC) := by
        have h9 := HO5.out
        rw [hln]
        simpa using h9
      have hset := heap_store (HHD.out _ HF5.out) 3 (.slice a5 (st.chg.length + 1) c5)
      have hfin := HA.out.setChg (w' := w5.setCell ⟨sb, 3, none⟩ (.slice a5 (st.chg.length + 1) c5)) HF5.out ho6 (fun k hk => by
        rw [hln] at hk
        refine (HM5.out k hk).elim (fun hk => H2.out.hm k hk) (fun hk => hw k (Nat.le_trans ?_ hk))
        show w.heap.size ≤ (w2.alloc _).heap.size
        simp; omega) ((Fr.refl (· = sb) w5).setCell (fun _ => rfl) _) (by rw [hset, hln]; rfl)
      refine ⟨rfl, ⟨a5, c5, hfin⟩, ?_⟩
      have f0 : Fr F w w0.drew := (Fr.of_below HB0.out : Fr F w w0).drew
      have f1 : Fr F w w2 := f0.trans (HF2.out.mono (fun k _ e => e ▸ h.f1))
      have f2 : Fr F w (w2.alloc (.cells #[.string c.nm, .string c.src, PV] 75)).drew := (f1.alloc _).drew
      have f3 : Fr F w w5 := f2.trans (HF5.out.mono (fun k _ hk => H2.out.hm k hk))
      exact f3.setCell (fun _ => h.self) _
end Go.Proofs.YtgehalfnpbjjcaaGreat
/- simfs: step. -/
namespace Go.Proofs.YtgehalfnpbjjcaaGreat
open Go Go.RowKit Go.Sort
theorem add64_ok (a : Addr) (n y : Int) (w : World) (hc : w.cell? a = some (.int .i64 n)) (hz : w.frozen? a = false) :
    Calls Tryz.prog 71 #[.pointer (some a), .int .i64 y] w fun e w' => e = .returned (.int .i64 (wrap64 (n + y))) ∧ w' = w.setCell a (.int .i64 (wrap64 (n + y))) := by
  have hadd := run_call_add (P := Tryz.prog) Tryz.func82 (by kernel_rfl) (by kernel_rfl) (by kernel_rfl) .i64 (by kernel_rfl) (y := y) (s := IntKind.i64.wrap (n + y)) hc hz (by simp [go_sem])
  go_enter Tryz.func71, Tryz.ntmps71
  go_wp2
  go_ret
  exact ⟨rfl, rfl⟩
theorem FSo.store {w : World} {F D : Nat → Prop} {sb m1 m2 : Nat} {st st' : FSt} {ch : Value} (h : FSo w F D sb st m1 m2 ch) (i : Nat) (v : Value) (he : (fsC st m1 m2 ch).setIfInBounds i v = fsC st' m1 m2 ch) (hf : st'.files = st.files) (h1 : st'.seen = st.seen) (h2 : st'.safe = st.safe) (h3 : st'.chg = st.chg) :
    FSo (w.setCell ⟨sb, i, none⟩ v) F D sb st' m1 m2 ch :=
  h.setHead ((Fr.refl (· = sb) w).setCell (fun _ => rfl) _) (by rw [heap_store h.head, he]) hf h.f1 h.f2 h.ne (by rw [h1]; exact h.seen) (by rw [h2]; exact h.safe) (by rw [h3]; exact h.own) h.hm
set_option maxRecDepth 100000 in
/-- s.step(do). -/
theorem fsStep_ok {F D : Nat → Prop} {sb m1 m2 : Nat} {st : FSt} {ch : Value} (w : World) (h : FSo w F D sb st m1 m2 ch) (g : Nat) (cb : Array Value) (eg : ∀ args w, (callFunc g args).run Tryz.prog w = .ok (.enter g args) w) (Q : World → Prop)
    (hdo : ∀ w1, FSo w1 F D sb (tick st) m1 m2 ch → Fr (· = sb) w w1 → w1.heap.size = w.heap.size → Calls Tryz.prog g cb w1 fun e w' => e = .returned (.tuple #[]) ∧ Q w') :
    Calls Tryz.prog 47 #[.pointer (some ⟨sb, 0, none⟩), .func (.func g) #[] cb] w fun e w' =>
      (st.armed = true ∧ st.left = 0 ∧ e = .returned (.int .i64 12) ∧ FSo w' F D sb { st with down := true } m1 m2 ch ∧ Fr (· = sb) w w') ∨ (¬ (st.armed = true ∧ st.left = 0) ∧ e = .returned (.int .i64 0) ∧ Q w') := by
  have hh := h.head
  have c4 : w.cell? ⟨sb, 4, none⟩ = some (.int .i64 st.left) := cell_of_heap hh 4
  have c5 : w.cell? ⟨sb, 5, none⟩ = some (.bool st.armed) := cell_of_heap hh 5
  have c6 : w.cell? ⟨sb, 6, none⟩ = some (.bool st.down) := cell_of_heap hh 6
  have f4 := frozen_of hh 4
  have f6 := frozen_of hh 6
  have hd := h.store (st' := { st with down := true }) 6 (.bool true) rfl rfl rfl rfl rfl
  have hl := h.store (st' := { st with left := wrap64 (st.left - 1) }) 4 (.int .i64 (wrap64 (st.left - 1))) rfl rfl rfl rfl rfl
  have ht := hl.store (st' := tick st) 7 (.int .i64 (wrap64 (st.steps + 1))) rfl rfl rfl rfl rfl
  have hadd := add64_ok ⟨sb, 7, none⟩ st.steps 1 _ (cell_of_heap hl.head 7) (frozen_of hl.head 7)
  have hfr : Fr (· = sb) w (w.setCell ⟨sb, 6, none⟩ (.bool true)) := (Fr.refl (· = sb) w).setCell (fun _ => rfl) _
  have hcl := hdo _ ht (((Fr.refl (· = sb) w).setCell (p := ⟨sb, 4, none⟩) (fun _ => rfl) _).setCell (p := ⟨sb, 7, none⟩) (fun _ => rfl) _) (by simp [World.setCell])
  have HD := hid hd
  have HADD := hid hadd
  have HFR := hid hfr
  have HCL := hid hcl
  clear hd hl ht hadd hfr hcl hdo hh h
  cases ha : st.armed with
  | true =>
    rw [ha] at c5
    by_cases h0 : st.left = 0
    · have h0b : (st.left == 0) = true := by simpa using h0
      rw [h0] at c4
      go_enter Tryz.func47, Tryz.ntmps47
      go_wp2
      go_ret
      exact .inl ⟨by trivial, h0, rfl, by have h9 := HD.out; rw [ha] at h9; exact h9, HFR.out⟩
    · have h0b : (st.left == 0) = false := by simpa using h0
      go_enter Tryz.func47, Tryz.ntmps47
      go_wp2_with (first | (go_at_call 71; refine HADD.out.mono ?_; rintro e w1 ⟨rfl, rfl⟩) | (go_at_fn g; refine HCL.out.mono ?_; rintro e w2 ⟨rfl, hq⟩; have HQ := hid hq; clear hq))
      go_ret
      exact .inr ⟨fun h => h0 h.2, rfl, HQ.out⟩
  | false =>
    rw [ha] at c5
    go_enter Tryz.func47, Tryz.ntmps47
    go_wp2_with (first | (go_at_call 71; refine HADD.out.mono ?_; rintro e w1 ⟨rfl, rfl⟩) | (go_at_fn g; refine HCL.out.mono ?_; rintro e w2 ⟨rfl, hq⟩; have HQ := hid hq; clear hq))
    go_ret
    exact .inr ⟨fun h => by simp at h, rfl, HQ.out⟩
end Go.Proofs.YtgehalfnpbjjcaaGreat
