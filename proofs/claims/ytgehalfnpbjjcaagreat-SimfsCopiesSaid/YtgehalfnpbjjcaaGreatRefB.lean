/- hayloftref06: put, apply. -/
import Derived.Test.YtgehalfnpbjjcaaGreatRefA
import Derived.Test.YtgehalfnpbjjcaaGreatSimS
namespace Go.Proofs.YtgehalfnpbjjcaaGreat
open Go Go.RowKit Go.Sort
theorem row_new {w : World} {cs : List Value} {k : Nat} (t : TypeId) (hk : cs.length = k) : Row (fun _ => False) (w.alloc (.cells cs.toArray t)) (.slice (some ⟨w.heap.size, 0, none⟩) 1 1) 1 k cs :=
  ⟨by omega, _, 1, rfl, ⟨by omega, by omega, by unfold maxLen; omega⟩, (fun h => nomatch h), .inr ⟨w.heap.size, 0, rfl, by simp, id, fun j x hx => by
    rw [cell_of_heap (heap_alloc_new w _), Nat.zero_add]
    simpa using hx⟩⟩
theorem rentC_one (p : ByteArray × Int) : ∀ u ∈ rentC p, u.oneCell' = true := by
  intro u hu
  simp only [rentC, List.mem_cons, List.not_mem_nil, or_false] at hu
  rcases hu with rfl | rfl <;> rfl
/-- What was appended to a slice of the call's own turned nothing old. -/
theorem own_below {w w1 w2 w3 : World} {e size n : Nat} {v : Value} {cs : List Value} (ho : Own w1 w.heap.size e size v n cs) (hb : Below w.heap.size w w1) (h2 : Below w1.heap.size w1 w2) (hf : Fr (mine v) w2 w3) : Below w.heap.size w w3 :=
  Below.fr (Below.below hb h2) hf (fun i hi hm => by have := (Own.mine_ge ho hm).1; omega)
set_option maxHeartbeats 1000000 in
set_option maxRecDepth 100000 in
theorem r06Put_ok (w : World) {S : Nat → Prop} (l : RDir) {a : Option Addr} {c : Nat} (hv : Row S w (.slice a l.length c) l.length 2 (l.flatMap rentC)) (n : ByteArray) (f : Int) (hl : l.length ≤ 1000000) (hnm : ∀ p ∈ l, p.1.size ≤ 1000000) :
    Calls Tryz.prog 77 #[.slice a l.length c, .string n, .int .i64 f] w fun e w' => ∃ a' c', e = .returned (.slice a' (rput l n f).length c') ∧ Own w' w.heap.size 105 2 (.slice a' (rput l n f).length c') (rput l n f).length ((rput l n f).flatMap rentC) ∧ Below w.heap.size w w' := by
  have HV := hid hv
  have HNM := hid hnm
  clear hv hnm
  have HRP := hid (show rput l n f = rputGo n f l (decide (f < 0)) from rfl)
  rw [HRP.out]
  go_enter Tryz.func77, Tryz.ntmps77
  go_wp2
  go_loopg [9, 8, 7] l.length (fun kx s9 s8 s7 wr => ∃ (i : Nat) (inn : Bool) (out : RDir) (a' : Option Addr) (c' : Nat), s9 = .int .i64 i ∧ s8 = .bool inn ∧ s7 = .slice a' out.length c' ∧ i ≤ l.length ∧ l.length - i ≤ kx ∧ out.length ≤ 2 * i ∧ Hid (out ++ rputGo n f (l.drop i) inn = rputGo n f l (decide (f < 0))) ∧ Hid (Own wr w.heap.size 105 2 (.slice a' out.length c') out.length (out.flatMap rentC)) ∧ Hid (Below w.heap.size w wr))
  case atStart => exact ⟨0, _, [], none, 0, rfl, rfl, rfl, Nat.zero_le _, Nat.le_refl _, Nat.zero_le _, hid rfl, hid (Own.nil _ _ _ _), hid (Below.refl _ _)⟩
  case round =>
    obtain ⟨i, inn, out, a', c', rfl, rfl, rfl, hi, hk, hol, HR, HO, HB⟩ := hrel
    by_cases hlt : i < l.length
    · have hlt' : (i : Int) < (l.length : Int) := by omega
      obtain ⟨p, hp⟩ : ∃ p, l[i]? = some p := ⟨_, List.getElem?_eq_getElem hlt⟩
      obtain ⟨b, off, rfl, hbw, _, hc1, hc2, hcell⟩ := HV.out.elem rentC_len (by decide) hp
      have hfw : Fr (fun _ => False) w wr := Fr.of_below HB.out
      have hb : b < wr.heap.size := Nat.lt_of_lt_of_le hbw hfw.size
      have k0 : wr.cell? ⟨b, off + i * 2, none⟩ = some (.string p.1) := (hfw.cell (p := ⟨b, off + i * 2, none⟩) hbw id).trans (hcell 0 _ rfl)
      have k1 : wr.cell? ⟨b, off + i * 2 + 1, none⟩ = some (.int .i64 p.2) := (hfw.cell (p := ⟨b, off + i * 2 + 1, none⟩) hbw id).trans (hcell 1 _ rfl)
      clear hcell hfw
      cases inn with
      | true =>
        have HPU := hid (rputGo_true (n := n) (f := f) hp)
        clear hp
        by_cases hpn : p.1 = n
        · have ht : (p.1.toList == n.toList) = true := by rw [str_eq, decide_eq_true hpn]
          have HKE := hid (show keepE p n = [] from if_pos hpn)
          clear hpn
          go_wp2_with (first | fail | fail)
          go_roundg (l.length - (i + 1))
          case measure => omega
          case rel =>
            refine ⟨i + 1, true, out, _, _, by go_num, rfl, rfl, hlt, Nat.le_refl _, by (try simp only [List.length_append, List.length_cons, List.length_nil]); omega, hid ?_, HO, HB⟩
            rw [← HR.out, HPU.out, HKE.out]
            simp
        · have ht : (p.1.toList == n.toList) = false := by rw [str_eq, decide_eq_false hpn]
          have HKE := hid (show keepE p n = [p] from if_neg hpn)
          clear hpn
          go_wp2_with (first | fail | (at_builtin; go_loud (refine wpl_append (S := fun _ => False) (base := w.heap.size) (n := (out).length) (xs := (out).flatMap rentC) (news := rentC p) (m := 1) rfl rfl etEntD rfl (HO.out.fr ((Fr.refl (fun _ => False) _).alloc _) (fun _ _ => id)) rfl (row_new 105 rfl) (rentC_one p) (by (try simp only [List.length_append, List.length_cons, List.length_nil]); omega) (Nat.le_trans HB.out.size (by simp)) ?_); intro v8 w8 ho8 hf8 hm8; obtain ⟨a8, c8, rfl, _⟩ := ho8.len; have HO8 := hid ho8; have HF8 := hid hf8; clear ho8 hf8 hm8))
          go_roundg (l.length - (i + 1))
          case measure => omega
          case rel =>
            refine ⟨i + 1, true, out ++ [p], a8, c8, by go_num, rfl, by simp, hlt, Nat.le_refl _, by simp only [List.length_append, List.length_cons, List.length_nil]; omega, hid ?_, hid (by simpa using HO8.out), hid ?_⟩
            · rw [← HR.out, HPU.out, HKE.out]
              simp
            · exact own_below HO.out HB.out ((Below.refl _ _).alloc (Nat.le_refl _) _) HF8.out
      | false =>
        have HLS := hid (r06Less_ok wr p.1 n (HNM.out p (List.mem_of_getElem? hp)))
        cases hbl : bless p.1 n with
        | true =>
          rw [hbl] at HLS
          have HPU := hid (rputGo_less (f := f) hp hbl)
          clear hp hbl
          go_wp2_with fail
          refine HLS.out.mono ?_
          rintro e wl ⟨rfl, hb9⟩
          have hf9 : Fr (fun _ => False) wr wl := Fr.of_below hb9
          have k0l : wl.cell? ⟨b, off + i * 2, none⟩ = some (.string p.1) := (hf9.cell (p := ⟨b, off + i * 2, none⟩) hb id).trans k0
          have k1l : wl.cell? ⟨b, off + i * 2 + 1, none⟩ = some (.int .i64 p.2) := (hf9.cell (p := ⟨b, off + i * 2 + 1, none⟩) hb id).trans k1
          have HOl := hid (HO.out.fr hf9 (fun _ _ => id))
          have HBl := hid (Below.below HB.out hb9)
          clear hb9 hf9 HLS
          by_cases hpn : p.1 = n
          · have ht : (p.1.toList == n.toList) = true := by rw [str_eq, decide_eq_true hpn]
            have HKE := hid (show keepE p n = [] from if_pos hpn)
            clear hpn
            go_wp2_with (first | fail | fail)
            go_roundg (l.length - (i + 1))
            case measure => omega
            case rel =>
              refine ⟨i + 1, false, out, _, _, by go_num, rfl, rfl, hlt, Nat.le_refl _, by (try simp only [List.length_append, List.length_cons, List.length_nil]); omega, hid ?_, HOl, HBl⟩
              rw [← HR.out, HPU.out, HKE.out]
              simp
          · have ht : (p.1.toList == n.toList) = false := by rw [str_eq, decide_eq_false hpn]
            have HKE := hid (show keepE p n = [p] from if_neg hpn)
            clear hpn
            go_wp2_with (first | fail | (at_builtin; go_loud (refine wpl_append (S := fun _ => False) (base := w.heap.size) (n := (out).length) (xs := (out).flatMap rentC) (news := rentC p) (m := 1) rfl rfl etEntD rfl (HOl.out.fr ((Fr.refl (fun _ => False) _).alloc _) (fun _ _ => id)) rfl (row_new 105 rfl) (rentC_one p) (by (try simp only [List.length_append, List.length_cons, List.length_nil]); omega) (Nat.le_trans HBl.out.size (by simp)) ?_); intro v8 w8 ho8 hf8 hm8; obtain ⟨a8, c8, rfl, _⟩ := ho8.len; have HO8 := hid ho8; have HF8 := hid hf8; clear ho8 hf8 hm8))
            go_roundg (l.length - (i + 1))
            case measure => omega
            case rel =>
              refine ⟨i + 1, false, out ++ [p], a8, c8, by go_num, rfl, by simp, hlt, Nat.le_refl _, by simp only [List.length_append, List.length_cons, List.length_nil]; omega, hid ?_, hid (by simpa using HO8.out), hid ?_⟩
              · rw [← HR.out, HPU.out, HKE.out]
                simp
              · exact own_below HOl.out HBl.out ((Below.refl _ _).alloc (Nat.le_refl _) _) HF8.out
        | false =>
          rw [hbl] at HLS
          have hpu := rputGo_more (f := f) hp hbl
          have HPU := hid (show out ++ rputGo n f (l.drop i) false = (out ++ [(n, f)]) ++ (keepE p n ++ rputGo n f (l.drop (i + 1)) true) from by rw [hpu]; simp)
          clear hp hbl hpu
          go_wp2_with fail
          refine HLS.out.mono ?_
          rintro e wl ⟨rfl, hb9⟩
          have hf9 : Fr (fun _ => False) wr wl := Fr.of_below hb9
          have HOl := hid (HO.out.fr hf9 (fun _ _ => id))
          have HBl := hid (Below.below HB.out hb9)
          have HKL := hid (show ∀ W, Fr (mine (.slice a' out.length c')) (wl.alloc (.cells #[.string n, .int .i64 f] 105)) W → W.cell? ⟨b, off + i * 2, none⟩ = some (.string p.1) ∧ W.cell? ⟨b, off + i * 2 + 1, none⟩ = some (.int .i64 p.2) from fun W hW => by
            have hfa := (hf9.alloc (.cells #[.string n, .int .i64 f] 105))
            have hbl : b < (wl.alloc (.cells #[.string n, .int .i64 f] 105)).heap.size := Nat.lt_of_lt_of_le hb hfa.size
            have hnb : ¬ mine (.slice a' out.length c') b := fun h => by have := (Own.mine_ge HO.out h).1; omega
            exact ⟨(hW.cell (p := ⟨b, off + i * 2, none⟩) hbl hnb).trans ((hfa.cell (p := ⟨b, off + i * 2, none⟩) hb id).trans k0), (hW.cell (p := ⟨b, off + i * 2 + 1, none⟩) hbl hnb).trans ((hfa.cell (p := ⟨b, off + i * 2 + 1, none⟩) hb id).trans k1)⟩)
          clear hb9 hf9 HLS k0 k1
          have HR9 := hid (HPU.out.symm.trans HR.out)
          by_cases hpn : p.1 = n
          · have ht : (p.1.toList == n.toList) = true := by rw [str_eq, decide_eq_true hpn]
            have HKE := hid (show keepE p n = [] from if_pos hpn)
            clear hpn
            go_wp2_with (first | fail | at_builtin; refine wpl_append (S := fun _ => False) (base := w.heap.size) (n := out.length) (xs := out.flatMap rentC) (news := rentC (n, f)) (m := 1) rfl rfl etEntD rfl (HOl.out.fr ((Fr.refl (fun _ => False) _).alloc _) (fun _ _ => id)) rfl (row_new 105 rfl) (rentC_one (n, f)) (by omega) (Nat.le_trans HBl.out.size (by simp)) ?_; intro v7 w7 ho7 hf7 hm7; obtain ⟨a7, c7, rfl, _⟩ := ho7.len; obtain ⟨k0, k1⟩ := HKL.out _ hf7; have HO7 := hid (show Own w7 w.heap.size 105 2 (.slice a7 (out.length + 1) c7) (out.length + 1) ((out ++ [(n, f)]).flatMap rentC) from by simpa using ho7); have HB7 := hid (own_below HOl.out HBl.out ((Below.refl _ _).alloc (Nat.le_refl _) _) hf7); clear ho7 hf7 hm7)
            go_roundg (l.length - (i + 1))
            case measure => omega
            case rel =>
              refine ⟨i + 1, true, out ++ [(n, f)], a7, c7, by go_num, rfl, by simp, hlt, Nat.le_refl _, by (try simp only [List.length_append, List.length_cons, List.length_nil]); omega, hid ?_, hid (by simpa using HO7.out), HB7⟩
              rw [← HR9.out, HKE.out]
              simp
          · have ht : (p.1.toList == n.toList) = false := by rw [str_eq, decide_eq_false hpn]
            have HKE := hid (show keepE p n = [p] from if_neg hpn)
            clear hpn
            go_wp2_with (first | at_builtin; refine wpl_append (S := fun _ => False) (base := w.heap.size) (n := out.length) (xs := out.flatMap rentC) (news := rentC (n, f)) (m := 1) rfl rfl etEntD rfl (HOl.out.fr ((Fr.refl (fun _ => False) _).alloc _) (fun _ _ => id)) rfl (row_new 105 rfl) (rentC_one (n, f)) (by omega) (Nat.le_trans HBl.out.size (by simp)) ?_; intro v7 w7 ho7 hf7 hm7; obtain ⟨a7, c7, rfl, _⟩ := ho7.len; obtain ⟨k0, k1⟩ := HKL.out _ hf7; have HO7 := hid (show Own w7 w.heap.size 105 2 (.slice a7 (out.length + 1) c7) (out.length + 1) ((out ++ [(n, f)]).flatMap rentC) from by simpa using ho7); have HB7 := hid (own_below HOl.out HBl.out ((Below.refl _ _).alloc (Nat.le_refl _) _) hf7); clear ho7 hf7 hm7 | (at_builtin; go_loud (refine wpl_append (S := fun _ => False) (base := w.heap.size) (n := out.length + 1) (xs := (out ++ [(n, f)]).flatMap rentC) (news := rentC p) (m := 1) rfl rfl etEntD rfl (HO7.out.fr ((Fr.refl (fun _ => False) _).alloc _) (fun _ _ => id)) rfl (row_new 105 rfl) (rentC_one p) (by (try simp only [List.length_append, List.length_cons, List.length_nil]); omega) (Nat.le_trans HB7.out.size (by simp)) ?_); intro v8 w8 ho8 hf8 hm8; obtain ⟨a8, c8, rfl, _⟩ := ho8.len; have HO8 := hid ho8; have HF8 := hid hf8; clear ho8 hf8 hm8))
            go_roundg (l.length - (i + 1))
            case measure => omega
            case rel =>
              refine ⟨i + 1, true, out ++ [(n, f)] ++ [p], a8, c8, by go_num, rfl, by simp, hlt, Nat.le_refl _, by simp only [List.length_append, List.length_cons, List.length_nil]; omega, hid ?_, hid (by simpa using HO8.out), hid ?_⟩
              · rw [← HR9.out, HKE.out]
                simp
              · exact own_below HO7.out HB7.out ((Below.refl _ _).alloc (Nat.le_refl _) _) HF8.out
    · obtain rfl : i = l.length := by omega
      have hr := HR.out
      rw [rputGo_end (Nat.le_refl _)] at hr
      cases inn with
      | true =>
        rw [if_pos rfl, List.append_nil] at hr
        have HRR := hid hr
        clear hr
        go_wp2
        go_ret
        rw [← HRR.out]
        exact ⟨a', c', rfl, HO.out, HB.out⟩
      | false =>
        rw [if_neg (by simp)] at hr
        have HRR := hid hr
        clear hr
        go_wp2_with (at_builtin; refine wpl_append (S := fun _ => False) (base := w.heap.size) (n := out.length) (xs := out.flatMap rentC) (news := rentC (n, f)) (m := 1) rfl rfl etEntD rfl (HO.out.fr ((Fr.refl (fun _ => False) _).alloc _) (fun _ _ => id)) rfl (row_new 105 rfl) (rentC_one (n, f)) (by omega) (Nat.le_trans HB.out.size (by simp)) ?_; intro v7 w7 ho7 hf7 hm7; obtain ⟨a7, c7, rfl, _⟩ := ho7.len; have HO7 := hid (show Own w7 w.heap.size 105 2 (.slice a7 (out.length + 1) c7) (out.length + 1) ((out ++ [(n, f)]).flatMap rentC) from by simpa using ho7); have HB7 := hid (own_below HO.out HB.out ((Below.refl _ _).alloc (Nat.le_refl _) _) hf7); clear ho7 hf7 hm7)
        go_ret
        rw [← HRR.out]
        refine ⟨a7, c7, ?_, ?_, HB7.out⟩
        · rw [List.length_append]; rfl
        · rw [List.length_append]; exact HO7.out
set_option maxHeartbeats 1000000 in
set_option maxRecDepth 100000 in
theorem r06Apply_ok (w : World) {S : Nat → Prop} (l : RDir) {a : Option Addr} {c : Nat} (hv : Row S w (.slice a l.length c) l.length 2 (l.flatMap rentC)) (ch : RChg) (hl : l.length ≤ 999990) (hnm : ∀ p ∈ l, p.1.size ≤ 1000000) (hcn : ch.a.size ≤ 1000000) :
    Calls Tryz.prog 65 #[.slice a l.length c, .agg (rchgC ch).toArray] w fun e w' => ∃ a' c', e = .returned (.slice a' (rapply l ch).length c') ∧ Own w' w.heap.size 105 2 (.slice a' (rapply l ch).length c') (rapply l ch).length ((rapply l ch).flatMap rentC) ∧ Below w.heap.size w w' := by
  have mixed : Tryz.prog.follows .mixedOrders = true := by kernel_rfl
  obtain ⟨w0, hw0⟩ : ∃ w0, w.alloc (.cells #[.int .i64 ch.kind, .string ch.a, .string ch.b, .int .i64 ch.which] 100) = w0 := ⟨_, rfl⟩
  have hb0 : Below w.heap.size w w0 := by rw [← hw0]; exact (Below.refl _ _).alloc (Nat.le_refl _) _
  have hh0 : w0.heap[w.heap.size]? = some (.cells #[.int .i64 ch.kind, .string ch.a, .string ch.b, .int .i64 ch.which] 100 (0, 0)) := by rw [← hw0]; exact heap_alloc_new w _
  have k0 : w0.cell? ⟨w.heap.size, 0, none⟩ = some (.int .i64 ch.kind) := cell_of_heap hh0 0
  have k1 : w0.cell? ⟨w.heap.size, 1, none⟩ = some (.string ch.a) := cell_of_heap hh0 1
  have k2 : w0.cell? ⟨w.heap.size, 2, none⟩ = some (.string ch.b) := cell_of_heap hh0 2
  have k3 : w0.cell? ⟨w.heap.size, 3, none⟩ = some (.int .i64 ch.which) := cell_of_heap hh0 3
  have hv0 := hv.fr (Fr.of_below hb0 : Fr (fun _ => False) w w0) (fun _ _ h => h.elim)
  have HP := hid (fun W f (hW : Below w0.heap.size w0 W) => r06Put_ok W l (hv0.fr (Fr.of_below hW : Fr (fun _ => False) w0 W) (fun _ _ h => h.elim)) ch.a f (by omega) hnm)
  have HB0 := hid hb0
  have HNM := hid hnm
  have HCN := hid hcn
  clear hv hv0 hnm hcn
  show Calls Tryz.prog 65 #[.slice a l.length c, .agg #[.int .i64 ch.kind, .string ch.a, .string ch.b, .int .i64 ch.which]] w _
  unfold rapply
  by_cases h1 : ch.kind = 1
  · have t1 : (ch.kind == 1) = true := by simp [h1]
    rw [if_pos h1]
    clear h1
    go_enter Tryz.func65, Tryz.ntmps65
    go_wp2_with fail
    refine (HP.out w0 ch.which (Below.refl _ _)).mono ?_
    rintro e w1 ⟨a1, c1, rfl, ho1, hb1⟩
    have HO1 := hid ho1
    have HB1 := hid hb1
    clear ho1 hb1
    go_wp2
    go_ret
    exact ⟨a1, c1, rfl, Own.mono HO1.out HB0.out.size, Below.below HB0.out HB1.out⟩
  · have t1 : (ch.kind == 1) = false := by simp [h1]
    rw [if_neg h1]
    clear h1
    by_cases h2 : ch.kind = 2
    · have t2 : (ch.kind == 2) = true := by simp [h2]
      rw [if_pos h2]
      clear h2
      go_enter Tryz.func65, Tryz.ntmps65
      go_wp2_with fail
      refine (HP.out w0 (-1) (Below.refl _ _)).mono ?_
      rintro e w1 ⟨a1, c1, rfl, ho1, hb1⟩
      have HO1 := hid ho1
      have HB1 := hid hb1
      clear ho1 hb1
      go_wp2
      go_ret
      exact ⟨a1, c1, rfl, Own.mono HO1.out HB0.out.size, Below.below HB0.out HB1.out⟩
    have t2 : (ch.kind == 2) = false := by simp [h2]
    rw [if_neg h2]
    clear h2
    have HW0 := hid hw0
    have FA1 := hid (show ∀ W, (Instr.fieldAt 100 (.pointer (some ⟨w.heap.size, 0, none⟩)) 1).run Tryz.prog W = .ok (.pointer (some ⟨w.heap.size, 1, none⟩)) W from fun W => by go_simp)
    have FA2 := hid (show ∀ W, (Instr.fieldAt 100 (.pointer (some ⟨w.heap.size, 0, none⟩)) 2).run Tryz.prog W = .ok (.pointer (some ⟨w.heap.size, 2, none⟩)) W from fun W => by go_simp)
    have FA3 := hid (show ∀ W, (Instr.fieldAt 100 (.pointer (some ⟨w.heap.size, 0, none⟩)) 3).run Tryz.prog W = .ok (.pointer (some ⟨w.heap.size, 3, none⟩)) W from fun W => by go_simp)
    have hl0 := lt_of_heap hh0
    have FL1 := hid (show ∀ W, Below w0.heap.size w0 W → (Instr.loadAt 9 (.pointer (some ⟨w.heap.size, 1, none⟩))).run Tryz.prog W = .ok (.string ch.a) W from fun W hW => by have hc : W.cell? ⟨w.heap.size, 1, none⟩ = some (.string ch.a) := ((Fr.of_below hW : Fr (fun _ => False) _ _).cell (p := ⟨w.heap.size, 1, none⟩) hl0 id).trans k1; go_simp)
    have FL2 := hid (show ∀ W, Below w0.heap.size w0 W → (Instr.loadAt 9 (.pointer (some ⟨w.heap.size, 2, none⟩))).run Tryz.prog W = .ok (.string ch.b) W from fun W hW => by have hc : W.cell? ⟨w.heap.size, 2, none⟩ = some (.string ch.b) := ((Fr.of_below hW : Fr (fun _ => False) _ _).cell (p := ⟨w.heap.size, 2, none⟩) hl0 id).trans k2; go_simp)
    have FL3 := hid (show ∀ W, Below w0.heap.size w0 W → (Instr.loadAt 3 (.pointer (some ⟨w.heap.size, 3, none⟩))).run Tryz.prog W = .ok (.int .i64 ch.which) W from fun W hW => by have hc : W.cell? ⟨w.heap.size, 3, none⟩ = some (.int .i64 ch.which) := ((Fr.of_below hW : Fr (fun _ => False) _ _).cell (p := ⟨w.heap.size, 3, none⟩) hl0 id).trans k3; go_simp)
    clear hw0 k1 k2 k3
    go_enter Tryz.func65, Tryz.ntmps65
    go_wp2_with fail
    rw [HW0.out]
    have e_put : ∀ args w, (callFunc 77 args).run Tryz.prog w = .ok (.enter 77 args) w := enters_of Tryz.func77 rfl rfl
    have hS0 : Below w0.heap.size w0 w0.drew := (Below.refl _ _).drew
    refine hg_start (fun W => Below w0.heap.size w0 W) 9 mixed ?_
    refine hgt 0 21 kMove (.tmp 0) (.slice a l.length c) (by kernel_rfl) (by kernel_rfl) (by kernel_rfl) (by kernel_rfl) (by exact fun _ _ _ h => h) (by kernel_rfl) (by kernel_rfl) hS0 (fun o w' ho hs => ex_move ho (by kernel_rfl)) ?_
    refine hgt 1 22 kFA (100, .tmp 3, 1) (.pointer (some ⟨w.heap.size, 1, none⟩)) (by kernel_rfl) (by kernel_rfl) (by kernel_rfl) (by kernel_rfl) (by exact fun _ _ _ h => h) (by kernel_rfl) (by kernel_rfl) hS0 (fun o w' ho hs => ex_fa ho (by kernel_rfl) (FA1.out _)) ?_
    refine hgt 2 23 kLoad (9, .tmp 22) (.string ch.a) (by kernel_rfl) (by kernel_rfl) (by kernel_rfl) (by kernel_rfl) (by exact fun _ _ _ h => h) (by kernel_rfl) (by kernel_rfl) hS0 (fun o w' ho hs => ex_load ho (by kernel_rfl) (FL1.out _ hs)) ?_
    refine hgt 4 25 kFA (100, .tmp 3, 2) (.pointer (some ⟨w.heap.size, 2, none⟩)) (by kernel_rfl) (by kernel_rfl) (by kernel_rfl) (by kernel_rfl) (by exact fun _ _ _ h => h) (by kernel_rfl) (by kernel_rfl) hS0 (fun o w' ho hs => ex_fa ho (by kernel_rfl) (FA2.out _)) ?_
    refine hgt 5 26 kLoad (9, .tmp 25) (.string ch.b) (by kernel_rfl) (by kernel_rfl) (by kernel_rfl) (by kernel_rfl) (by exact fun _ _ _ h => h) (by kernel_rfl) (by kernel_rfl) hS0 (fun o w' ho hs => ex_load ho (by kernel_rfl) (FL2.out _ hs)) ?_
    refine hgt 6 27 kFA (100, .tmp 3, 3) (.pointer (some ⟨w.heap.size, 3, none⟩)) (by kernel_rfl) (by kernel_rfl) (by kernel_rfl) (by kernel_rfl) (by exact fun _ _ _ h => h) (by kernel_rfl) (by kernel_rfl) hS0 (fun o w' ho hs => ex_fa ho (by kernel_rfl) (FA3.out _)) ?_
    refine hgt 7 28 kLoad (3, .tmp 27) (.int .i64 ch.which) (by kernel_rfl) (by kernel_rfl) (by kernel_rfl) (by kernel_rfl) (by exact fun _ _ _ h => h) (by kernel_rfl) (by kernel_rfl) hS0 (fun o w' ho hs => ex_load ho (by kernel_rfl) (FL3.out _ hs)) ?_
    refine hg1 3 (by kernel_rfl) ?_
    refine hg_call 24 77 [.tmp 21, .tmp 23, .const (.int .i64 (-1))] [.slice a l.length c, .string ch.a, .int .i64 (-1)] (by kernel_rfl) (by kernel_rfl) e_put (HP.out w0.drew (-1) hS0) ?_
    rintro e w1 ⟨a1, c1, rfl, ho1, hb1⟩
    have hS1 : Below w0.heap.size w0 w1 := Below.below hS0 hb1
    refine ⟨_, rfl, .inr hS1, ?_⟩
    refine hg1 8 (by kernel_rfl) ?_
    obtain ⟨l1, hl1⟩ : ∃ l1, rput l ch.a (-1) = l1 := ⟨_, rfl⟩
    have hln : l1.length ≤ l.length + 1 := by rw [← hl1]; exact rput_length l ch.a (-1)
    have hnm1 : ∀ p ∈ l1, p.1.size ≤ 1000000 := fun p hp => by
      rw [← hl1] at hp
      rcases mem_rputGo hp with h | ⟨h, _⟩
      · exact HNM.out p h
      · rw [h]; exact HCN.out
    rw [hl1] at ho1 ⊢
    have HL1 := hid hl1
    clear hl1
    obtain ⟨l2, hl2⟩ : ∃ l2, rput l1 ch.b ch.which = l2 := ⟨_, rfl⟩
    have hp2 := r06Put_ok w1 (S := fun _ => False) l1 (ho1.row (fun _ _ _ => id)) ch.b ch.which (by omega) hnm1
    rw [hl2] at hp2
    have HL2 := hid hl2
    clear hl2
    refine hg_call 29 77 [.tmp 24, .tmp 26, .tmp 28] [.slice a1 l1.length c1, .string ch.b, .int .i64 ch.which] (by kernel_rfl) (by kernel_rfl) e_put hp2 ?_
    rintro e w2 ⟨a2, c2, rfl, ho2, hb2⟩
    have hS2 : Below w0.heap.size w0 w2 := Below.below hS1 hb2
    refine ⟨_, rfl, .inr hS2, ?_⟩
    refine hg1 9 (by kernel_rfl) ?_
    refine hg_val 4 kAssign (.tmp 29) (.slice a2 l2.length c2) (by kernel_rfl) (fun o ho => ex_assign ho (by kernel_rfl)) (.inl rfl) ?_
    refine hg_done (by kernel_rfl) ?_
    have HO2 := hid ho2
    have HS1 := hid hS1
    have HS2 := hid hS2
    clear ho1 hb1 ho2 hb2 hS1 hS2 hS0
    go_wp2
    go_ret
    rw [HL1.out, HL2.out]
    refine ⟨a2, c2, ?_, Own.mono HO2.out (Nat.le_trans HB0.out.size HS1.out.size), Below.below HB0.out HS2.out⟩
    kernel_rfl
end Go.Proofs.YtgehalfnpbjjcaaGreat
