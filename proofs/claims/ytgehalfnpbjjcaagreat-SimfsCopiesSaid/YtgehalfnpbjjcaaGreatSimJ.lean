/- simfs: settle, SyncDir. -/
import Derived.Test.YtgehalfnpbjjcaaGreatSimH
namespace Go.Proofs.YtgehalfnpbjjcaaGreat
open Go Go.RowKit Go.Sort
theorem chg_at {l : List Chg} {i : Nat} {c : Chg} (h : l[i]? = some c) (j : Nat) (hj : j < 3) : (l.flatMap chgC)[i * 3 + j]? = (chgC c)[j]? := by
  induction l generalizing i with
  | nil => simp at h
  | cons a l ih =>
    rw [List.flatMap_cons]
    cases i with
    | zero =>
      simp only [List.getElem?_cons_zero, Option.some.injEq] at h
      subst h
      rw [Nat.zero_mul, Nat.zero_add, List.getElem?_append_left (by simp [chgC]; omega)]
    | succ i =>
      rw [List.getElem?_append_right (by simp [chgC]; omega), show (i + 1) * 3 + j - (chgC a).length = i * 3 + j by simp [chgC]; omega]
      exact ih (by simpa using h)
theorem own_chg {w : World} {g n cap : Nat} {l : List Chg} (h : Own w 0 75 3 (.slice (some ⟨g, 0, none⟩) n cap) n (l.flatMap chgC)) (hl : n = l.length) {i : Nat} {c : Chg} (hc : l[i]? = some c) :
    w.cell? ⟨g, i * 3, none⟩ = some (.string c.nm) ∧ w.cell? ⟨g, i * 3 + 1, none⟩ = some (.string c.src) ∧ w.cell? ⟨g, i * 3 + 2, none⟩ = some (.pointer (c.dst.map fun p => ⟨p, 0, none⟩)) := by
  obtain ⟨_, a, cc, hv, _, _, h4⟩ := h.row (S := fun _ => False) (fun _ _ _ => id)
  injection hv with e1 e2 e3
  subst e1 e3
  have hi := (List.getElem?_eq_some_iff.1 hc).1
  obtain ⟨b, off, hab, _, _, hcell⟩ := h4.resolve_left (by omega)
  injection hab with hab
  injection hab with e1 e2 _
  subst e1 e2
  have k := fun j hj x (hx : (chgC c)[j]? = some x) => hcell (i * 3 + j) x ((chg_at hc j hj).trans hx)
  simp only [Nat.zero_add] at k
  exact ⟨k 0 (by omega) _ rfl, k 1 (by omega) _ rfl, k 2 (by omega) _ rfl⟩
set_option maxRecDepth 100000 in
theorem slice_to (ca : Option Addr) (len cc n : Nat) (hn : n ≤ len) (hc : len ≤ cc) (hm : cc ≤ 9223372036854775807) (h0 : ca = none → cc = 0) (W : World) : (Instr.sliceAt 55 (.slice ca len cc) none (some (.int .i64 (n : Int))) none).run Tryz.prog W = .ok (.slice ca n cc) W := by
  cases ca with
  | none =>
    have := h0 rfl
    subst this
    obtain rfl : len = 0 := by omega
    obtain rfl : n = 0 := by omega
    go_simp
  | some a =>
    have g1 : (n : Int) ≤ (cc : Int) := by omega
    have g2 : ¬ ((n : Int) < 0) := by omega
    go_simp
set_option maxHeartbeats 2000000 in
set_option maxRecDepth 100000 in
theorem fsSettle_ok {F D : Nat → Prop} {sb m1 m2 : Nat} {st : FSt} {ca : Option Addr} {cc : Nat} (w : World) (h : FSo w F D sb st m1 m2 (.slice ca st.chg.length cc)) (n : Nat) (hn : n ≤ st.chg.length) :
    Calls Tryz.prog 55 #[.pointer (some ⟨sb, 0, none⟩), .int .i64 n] w fun e w' => e = .returned (.tuple #[]) ∧ FSo w' F D sb (settleF st n) m1 m2 (.slice none 0 0) ∧ Fr F w w' := by
  have hmf : ∀ (fn : Fn) (first cap : Array Value) (w : World), (Instr.makeFunc fn first cap).run Tryz.prog w = .ok (.func fn first cap) w := fun _ _ _ _ => rfl
  have c2 : w.cell? ⟨sb, 2, none⟩ = some (.map (some m2)) := cell_of_heap h.head 2
  have c3 : w.cell? ⟨sb, 3, none⟩ = some (.slice ca st.chg.length cc) := cell_of_heap h.head 3
  have hrow := h.own.row (S := fun _ => False) (fun _ _ _ => id)
  obtain ⟨_, _, _, hsl, ⟨hf1, hf2, hf3⟩, hf4, h4⟩ := hrow
  injection hsl with e1 e2 e3
  subst e1 e3
  clear e2
  unfold maxLen at hf3
  have hse := slice_to ca st.chg.length cc n hn hf1 (by omega) hf4
  have HS0 := hid (show FSo w F D sb { st with safe := doAll st.safe (st.chg.take 0) } m1 m2 (.slice ca st.chg.length cc) from h)
  have H4 := hid h4
  have HH := hid h
  have HSE := hid (slice_to ca st.chg.length cc n hn hf1 (by omega) hf4)
  clear h h4 hf4
  go_enter Tryz.func55, Tryz.ntmps55
  go_wp2
  clear hse
  go_loopg [19] n (fun kx s19 wr => ∃ i : Nat, s19 = .int .i64 i ∧ i ≤ n ∧ n - i ≤ kx ∧ Hid (FSo wr F D sb { st with safe := doAll st.safe (st.chg.take i) } m1 m2 (.slice ca st.chg.length cc)) ∧ Hid (Fr F w wr))
  case atStart => exact ⟨0, rfl, Nat.zero_le _, Nat.le_refl _, HS0, hid (Fr.refl _ _)⟩
  case round =>
    obtain ⟨i, rfl, hi, hkx, HS, HFR⟩ := hrel
    by_cases hlt : i < n
    · obtain ⟨c, hc⟩ : ∃ c, st.chg[i]? = some c := ⟨_, List.getElem?_eq_getElem (show i < st.chg.length by omega)⟩
      obtain ⟨g, rfl⟩ : ∃ g, ca = some ⟨g, 0, none⟩ := by
        rcases HS.out.own.2 with ⟨h0, a, ha⟩ | ⟨g, cap, cur, hv, _⟩
        · have h0' : st.chg.length = 0 := h0
          omega
        · injection hv with e1 _ _; exact ⟨g, e1⟩
      obtain ⟨PV, hPV⟩ : ∃ PV, PV = c.dst.map fun p => (⟨p, 0, none⟩ : Addr) := ⟨_, rfl⟩
      have hcc : (chgC c).toArray = #[.string c.nm, .string c.src, .pointer PV] := by rw [hPV]; rfl
      obtain ⟨r0, r1, r2⟩ := own_chg HS.out.own rfl hc
      rw [← hPV] at r2
      have HPV := hid hPV
      have hdo := fsDo_ok (wr.alloc (.cells #[.string c.nm, .string c.src, .pointer PV] 75)) m2 _ c (HS.out.safe.fr ((Fr.refl (fun _ => False) wr).alloc _) id)
      rw [hcc] at hdo
      have HDO := hid hdo
      have HC := hid hc
      have HCC := hid hcc
      have hlt' : (i : Int) < (n : Int) := by omega
      clear hPV hdo hc hcc
      go_wp2_with (go_at_call 72; refine HDO.out.mono ?_; rintro e w2 ⟨rfl, hm, hf⟩; have HM := hid hm; have HF := hid hf; clear hm hf)
      go_roundg (n - (i + 1))
      case measure => omega
      case rel =>
        have hb : Below wr.heap.size wr (wr.alloc (.cells #[.string c.nm, .string c.src, .pointer PV] 75)) := (Below.refl _ _).alloc (Nat.le_refl _) _
        refine ⟨i + 1, by go_num, hlt, Nat.le_refl _, hid ?_, hid ?_⟩
        · have h9 := (HS.out.below hb).setSafe HF.out HM.out
          rw [List.take_add_one, HC.out, Option.toList_some, doAll_snoc]
          exact h9
        · exact ((HFR.out.alloc _).trans (HF.out.mono (fun k _ e => e ▸ HS.out.f2)))
    · obtain rfl : i = n := by omega
      have f3 := frozen_of HS.out.head 3
      have c3' : wr.cell? ⟨sb, 3, none⟩ = some (.slice ca st.chg.length cc) := cell_of_heap HS.out.head 3
      go_wp2
      go_end0
      have hset := heap_store HS.out.head 3 (.slice none 0 0)
      refine ⟨rfl, ?_, HFR.out.setCell (fun _ => HH.out.self) _⟩
      exact HS.out.setChg (w' := wr.setCell ⟨sb, 3, none⟩ (.slice none 0 0)) (w1 := wr) (Fr.refl _ _) (l := []) (Own.nil _ _ _ _) (fun k hk => by obtain ⟨off, m, c, hv, hc⟩ := hk; cases hv) ((Fr.refl (· = sb) wr).setCell (fun _ => rfl) _) (hset.trans rfl)
end Go.Proofs.YtgehalfnpbjjcaaGreat
/- simfs: SyncDir, Rename. -/
namespace Go.Proofs.YtgehalfnpbjjcaaGreat
open Go Go.RowKit Go.Sort
set_option maxRecDepth 100000 in
theorem fsSync1_ok {F D : Nat → Prop} {sb m1 m2 : Nat} {s : FSt} {ca : Option Addr} {cc : Nat} (w : World) (h : FSo w F D sb s m1 m2 (.slice ca s.chg.length cc)) (b1 : Nat) (k1 : w.cell? ⟨b1, 0, none⟩ = some (.pointer (some ⟨sb, 0, none⟩))) :
    Calls Tryz.prog 54 #[.pointer (some ⟨b1, 0, none⟩)] w fun e w' => e = .returned (.tuple #[]) ∧ FSo w' F D sb (settleF s s.chg.length) m1 m2 (.slice none 0 0) ∧ Fr F w w' := by
  have mixed : Tryz.prog.follows .mixedOrders = true := by kernel_rfl
  have c3 : w.cell? ⟨sb, 3, none⟩ = some (.slice ca s.chg.length cc) := cell_of_heap h.head 3
  have HSE := hid (fsSettle_ok w.drew (h.fr ((Fr.refl (fun _ => False) w).drew) (fun _ _ => id)) s.chg.length (Nat.le_refl _))
  clear h
  go_enter Tryz.func54, Tryz.ntmps54
  go_wp2_with fail
  go_region_law_o ((go_simp; go_at_call 55; refine HSE.out.mono ?_; rintro e w2 ⟨rfl, hq, hf⟩; have HQ := hid hq; have HF := hid hf; clear hq hf))
  all_goals
    go_end0
    exact ⟨rfl, HQ.out, ⟨HF.out.os, HF.out.tape, HF.out.output, HF.out.size, HF.out.block⟩⟩
set_option maxHeartbeats 1000000 in
set_option maxRecDepth 100000 in
theorem fsSync_ok {F D : Nat → Prop} {sb : Nat} {st : FSt} (w : World) (h : FSr w F D sb st) :
    Calls Tryz.prog 16 #[.pointer (some ⟨sb, 0, none⟩)] w fun e w' => e = .returned (.int .i64 (syncF st).2) ∧ ∃ F' D', FSr w' F' D' sb (syncF st).1 ∧ Turn F D F' D' w w' := by
  obtain ⟨w0, hw0⟩ : ∃ w0, w0 = w.alloc (.cells #[.pointer (some ⟨sb, 0, none⟩)] 25) := ⟨_, rfl⟩
  have hb0 : Below w.heap.size w w0 := by rw [hw0]; exact (Below.refl _ _).alloc (Nat.le_refl _) _
  have hx1 : w0.heap[w.heap.size]? = some (.cells #[.pointer (some ⟨sb, 0, none⟩)] 25 (0, 0)) := by rw [hw0]; exact heap_alloc_new w _
  have hsb := h.sb_lt
  have q1 : w0.cell? ⟨w.heap.size, 0, none⟩ = some (.pointer (some ⟨sb, 0, none⟩)) := cell_of_heap hx1 0
  have HI := hid (fsIs_ok w0 (h.below hb0))
  have hl1 := lt_of_heap hx1
  have HB0 := hid hb0
  have HH := hid h
  have HW0 := hid hw0
  clear hb0 hx1 h hw0
  have hmf : ∀ (fn : Fn) (first cap : Array Value) (w : World), (Instr.makeFunc fn first cap).run Tryz.prog w = .ok (.func fn first cap) w := fun _ _ _ _ => rfl
  unfold isF at HI
  unfold syncF
  cases hd : st.down with
  | true =>
    rw [hd] at HI
    simp only [if_true] at HI ⊢
    go_enter Tryz.func16, Tryz.ntmps16
    go_wp2_with (go_at_call 53; rw [← HW0.out]; refine HI.out.mono ?_; rintro e w1 ⟨rfl, rfl⟩)
    go_ret
    exact ⟨rfl, HH.out.same HB0.out⟩
  | false =>
    rw [hd] at HI
    simp only [Bool.false_eq_true, if_false] at HI ⊢
    have HST := hid (step_any (F1 := F) (D1 := D) HH.out HB0.out 54 #[.pointer (some ⟨w.heap.size, 0, none⟩)] (enters_of Tryz.func54 rfl rfl) (fun s => settleF s s.chg.length) (HH.out.ok.tick.settle _)
      (fun _ _ _ h => h) (fun k h => .inl h) (fun k h => .inl h) (fun w2 m1 m2 ca cc h2 hf2 hs2 => by
        have k1 := (hf2.cell (p := ⟨w.heap.size, 0, none⟩) hl1 (fun e => absurd (show w.heap.size = sb from e) (by omega))).trans q1
        refine (fsSync1_ok w2 h2 _ k1).mono ?_
        rintro e w' ⟨rfl, h3, hf3⟩
        exact ⟨rfl, ⟨m1, m2, _, h3⟩, hf3⟩))
    generalize (goF st fun s => settleF s s.chg.length) = R at *
    go_enter Tryz.func16, Tryz.ntmps16
    go_wp2_with (first | (go_at_call 53; rw [← HW0.out]; refine HI.out.mono ?_; rintro e w1 ⟨rfl, rfl⟩) | (go_at_call 47; refine HST.out.mono ?_; rintro e w2 ⟨rfl, hr⟩; have HR := hid hr; clear hr))
    go_ret
    exact ⟨rfl, HR.out⟩
end Go.Proofs.YtgehalfnpbjjcaaGreat
