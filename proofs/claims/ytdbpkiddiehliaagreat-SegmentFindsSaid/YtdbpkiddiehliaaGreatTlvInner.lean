/- tlv's only and inner. -/
import Derived.Test.YtdbpkiddiehliaaGreatTlvA
import Derived.Test.YtdbpkiddiehliaaGreatShelf
import Derived.Test.YtdbpkiddiehliaaGreatEqual
import Derived.Deep.QuietTactic
import Derived.BigQuiet
import Derived.Outline
import Derived.Test.YtdbpkiddiehliaaGreatPureTlv2
namespace Go.Proofs.YtdbpkiddiehliaaGreat
open Go Go.RowKit
theorem onlyB_1 (n : Nat) (b : List UInt8) (k : Nat) : onlyB 1 n b k = (b.isEmpty && !decide (0 < k)) := by
  cases k <;> simp [onlyB]
theorem onlyB_2 (n : Nat) (b : List UInt8) (k : Nat) : onlyB 2 n b k = (!((n : Int) != 0) && !decide (0 < k)) := by
  cases k <;> cases n <;> simp [onlyB] <;> omega
theorem onlyB_3 (n : Nat) (b : List UInt8) (k : Nat) : onlyB 3 n b k = (!((n : Int) != 0) && !decide (0 < b.length)) := by
  cases b <;> cases n <;> simp [onlyB] <;> omega
set_option maxRecDepth 100000 in
set_option maxHeartbeats 1000000 in
theorem only_ok {S : Nat → Prop} (v : TV) (x : Value) (w : World) (hv : TVv S w v x) :
    Calls Tryz.prog 77 #[x] w fun e w' => e = .returned (.bool (onlyB v.tag v.num v.byt v.lst.length)) ∧ Below w.heap.size w w' := by
  obtain ⟨c0, c1, c2, c3, rfl, h⟩ := hv
  obtain ⟨hn, vb, vl, ks, hc, hb, hr, _⟩ := h.cells
  simp only [List.cons.injEq, and_true] at hc
  obtain ⟨rfl, rfl, rfl, rfl⟩ := hc
  obtain ⟨a, c, rfl, ⟨hlb, _, hcm⟩, _, _⟩ := hb
  obtain ⟨_, a', c', rfl, ⟨hll, _, hcm'⟩, _, _⟩ := hr
  unfold maxLen at hcm hcm'
  obtain ⟨tag, n, b, l⟩ := v
  simp only [TV.tag, TV.num, TV.byt, TV.lst] at *
  clear h
  rename_i hX1 hX2 hX3 hX4
  clear hX1 hX2 hX3 hX4
  by_cases h1 : tag = 1
  · subst h1
    go_enter Tryz.func77, Tryz.ntmps77
    go_wp2
    go_quiet (fail)
    go_wp2
    all_goals
      go_ret
      refine ⟨ret_bool ?_, below_dN ((Below.refl _ _).alloc (Nat.le_refl _) _) _⟩
      rw [onlyB_1]
      simp [*]
  by_cases h2 : tag = 2
  · subst h2
    go_enter Tryz.func77, Tryz.ntmps77
    go_wp2
    go_quiet (fail)
    go_wp2
    all_goals
      go_ret
      refine ⟨ret_bool ?_, below_dN ((Below.refl _ _).alloc (Nat.le_refl _) _) _⟩
      rw [onlyB_2]
      simp [*]
  by_cases h3 : tag = 3
  · subst h3
    go_enter Tryz.func77, Tryz.ntmps77
    go_wp2
    go_quiet (fail)
    go_wp2
    all_goals
      go_ret
      refine ⟨ret_bool ?_, below_dN ((Below.refl _ _).alloc (Nat.le_refl _) _) _⟩
      rw [onlyB_3]
      simp [*]
  · have e1 : (tag == 1) = false := by simp [h1]
    have e2 : (tag == 2) = false := by simp [h2]
    have e3 : (tag == 3) = false := by simp [h3]
    have f1 : ((1 : Int) == tag) = false := by simp; omega
    have f2 : ((2 : Int) == tag) = false := by simp; omega
    have f3 : ((3 : Int) == tag) = false := by simp; omega
    have HO := hid (show onlyB tag n b l.length = false by simp [onlyB, h1, h2, h3])
    clear h1 h2 h3
    go_enter Tryz.func77, Tryz.ntmps77
    go_wp2
    go_quiet (fail)
    go_wp2
    all_goals
      go_ret
      exact ⟨ret_bool HO.out.symm, below_dN ((Below.refl _ _).alloc (Nat.le_refl _) _) _⟩
end Go.Proofs.YtdbpkiddiehliaaGreat
/- tlv's inner: how many bytes a value has behind its first three. -/
namespace Go.Proofs.YtdbpkiddiehliaaGreat
open Go Go.RowKit
theorem len64_ok (n : Nat) (w : World) (hn : n < 18446744073709551616) : Calls Tryz.prog 65 #[.int .u64 (n : Int)] w fun e w' => e = .returned (.int .i64 (Lib.bitLen n : Int)) ∧ w' = w := by
  have h := Tryz.bits_Len64 (n : Int) w (by omega) (by omega)
  rw [Int.toNat_natCast] at h
  exact h
theorem only_mk {S : Nat → Prop} (tag : Int) (n : Nat) (b : List UInt8) (l : List TV) (x : Value) (w : World) (o : Bool) (ho : onlyB tag n b l.length = o) (hv : TVv S w (.mk tag n b l) x) :
    Calls Tryz.prog 77 #[x] w fun e w' => e = .returned (.bool o) ∧ Below w.heap.size w w' := ho ▸ only_ok _ x w hv
/-- What inner answers, once it is known. -/
def RetI (w : World) (r : Int) (e : Ending) (w' : World) : Prop := e = .returned (.int .i64 r) ∧ Below w.heap.size w w'
set_option maxRecDepth 100000 in
set_option maxHeartbeats 2000000 in
theorem inner_step {S : Nat → Prop} (d : Nat) (hd : d ≤ 100) (v : TV) (x : Value) (w : World) (hv : TVv S w v x)
    (ih : ∀ (v : TV) (x : Value) (w : World), d ≠ 0 → TVv S w v x → Calls Tryz.prog 66 #[x, .int .i64 ((d : Int) - 1)] w (RetI w (innI (d - 1) v))) :
    Calls Tryz.prog 66 #[x, .int .i64 (d : Int)] w (RetI w (innI d v)) := by
  have HV := hid hv
  obtain ⟨c0, c1, c2, c3, rfl, h⟩ := hv
  obtain ⟨hn, vb, vl, ks, hc, hb, hr, hch⟩ := h.cells
  simp only [List.cons.injEq, and_true] at hc
  obtain ⟨rfl, rfl, rfl, rfl⟩ := hc
  obtain ⟨a, c, rfl, ⟨hlb, hbl, hcm⟩, _, _⟩ := hb
  have HR := hid hr
  have HC := hid hch
  obtain ⟨_, a', c', rfl, ⟨hll, hlim, hcm'⟩, _, h4⟩ := hr
  have H4 := hid h4
  unfold maxLen at hcm hcm'
  obtain ⟨tag, n, b, l⟩ := v
  simp only [TV.tag, TV.num, TV.byt, TV.lst] at *
  clear h hch h4
  rename_i hX1 hX2 hX3
  clear hX1 hX2 hX3
  have IH := hid ih
  clear ih
  by_cases ho1 : onlyB tag n b l.length = true
  · have HO := hid ho1
    by_cases ht : tag = 3 ∧ d = 0
    · obtain ⟨rfl, rfl⟩ := ht
      rw [inn_no (fun h => h.2 rfl rfl)]
      clear ho1
      go_enter Tryz.func66, Tryz.ntmps66
      go_wp2_with (go_at_call 77; refine (only_mk _ _ _ _ _ _ true HO.out (HV.out.fr ((Fr.refl (fun _ => False) w).alloc _) (fun _ _ h => h.elim))).mono ?_; rintro e w1 ⟨rfl, hb1⟩; obtain ⟨hc1, hf1⟩ := wold hb1)
      go_ret
      exact ⟨rfl, ((Below.refl _ _).alloc (Nat.le_refl _) _).trans (hb1.mono (by simp))⟩
    · have h0 : onlyB tag n b l.length = true ∧ (tag = 3 → d ≠ 0) := ⟨ho1, fun h1 h2 => ht ⟨h1, h2⟩⟩
      have HD := hid h0
      have htest : (tag == 3) = false ∨ ((tag == 3) = true ∧ (((d : Nat) : Int) == 0) = false) := by
        by_cases e : tag = 3
        · exact .inr ⟨by simp [e], by simp; exact h0.2 e⟩
        · exact .inl (by simp [e])
      have hL := bitLen_len n hn
      have hk := bitLen_le n
      have hL' : ((Lib.bitLen n : Int) + 7) / 8 = ((numBytes n).length : Int) := by omega
      have hLb : (numBytes n).length ≤ 8 := by omega
      have HLEN := hid (len64_ok n · hn)
      generalize hkk : Lib.bitLen n = k at *
      generalize hLL : (numBytes n).length = L at *
      have HLL := hid hLL
      clear ho1 h0 hL hLL hkk ht
      rcases htest with h3 | ⟨h3, h30⟩
      all_goals
        go_enter Tryz.func66, Tryz.ntmps66
        go_wp2_with (go_at_call 77; refine (only_mk _ _ _ _ _ _ true HO.out (HV.out.fr ((Fr.refl (fun _ => False) w).alloc _) (fun _ _ h => h.elim))).mono ?_; rintro e w1 ⟨rfl, hb1⟩; obtain ⟨hc1, hf1⟩ := wold hb1)
        go_quiet ((go_at_call 65; exact Calls.quiet_of_same (HLEN.out _)))
        go_wp2
        have hB0 : Below w.heap.size w (w1.drewN nq) := below_dN (((Below.refl _ _).alloc (Nat.le_refl _) _).trans (hb1.mono (by simp))) nq
        have HB0 := hid hB0
        clear hc1 hf1 hb1 hB0
        simp only [hL']
        clear hL'
        go_loopw [5, 33] (fun m i wr => ∃ k s : Nat, k ≤ l.length ∧ i = .int .i64 k ∧ inns (d - 1) (l.take k) = some s ∧ m = .int .i64 ((L + b.length + s : Nat) : Int) ∧ (k = 0 ∧ s = 0 ∨ L + b.length + s ≤ 65535) ∧ Below w.heap.size w wr) (fun _ i _ => l.length - (intOf i).toNat)
        case atStart => exact ⟨0, 0, by omega, rfl, by rw [List.take_zero, inns], by rw [Nat.add_zero]; go_num, .inl ⟨rfl, rfl⟩, HB0.out⟩
        case round =>
          obtain ⟨k, s, hkl, rfl, hs, rfl, hbd, hB⟩ := hrel
          have HS := hid hs
          have HBD := hid hbd
          have hbd' : L + b.length + s ≤ 140737488355328 + 65535 + 8 := by rcases hbd with ⟨_, rfl⟩ | h <;> omega
          clear hs hbd
          by_cases hlt : k < l.length
          · rcases H4.out with h0 | ⟨blk, off, ha, hblk, _, hcells⟩
            · omega
            subst ha
            obtain ⟨ec, hec, hk4⟩ := HC.out.get (i := k) (v := l[k]) (List.getElem?_eq_getElem hlt)
            have HTV := hid (show TVv S wr l[k] (.agg ec.toArray) from by
              obtain ⟨_, vb, vl, ks', rfl, _⟩ := hec.cells
              exact ⟨_, _, _, _, rfl, TVr.fr (Fr.of_below (S := fun _ => False) hB) (fun _ _ h => h.elim) _ _ hec⟩)
            have hcw : ∀ j x, ec[j]? = some x → wr.cell? ⟨blk, off + k * 4 + j, none⟩ = some x := fun j x hx => by
              rw [hB.cell (p := ⟨blk, off + k * 4 + j, none⟩) hblk, Nat.add_assoc]
              exact hcells _ _ (hk4 j x hx)
            obtain ⟨hen, evb, evl, eks, rfl, heb, her, _⟩ := hec.cells
            obtain ⟨ea, ecap, rfl, _⟩ := heb
            obtain ⟨_, ea', ecap', rfl, _⟩ := her
            have k0 := hcw 0 _ rfl
            have k1 := hcw 1 _ rfl
            have k2 := hcw 2 _ rfl
            have k3 := hcw 3 _ rfl
            rw [Nat.add_zero] at k0
            have htag := onlyB_list HD.out.1 (by omega)
            have hd0 : d ≠ 0 := HD.out.2 htag
            have hd1 : (1 : Int) ≤ (d : Int) := by omega
            have HSN := hid (inns_snoc HS.out hlt)
            have hdl : decide ((k : Int) < (l.length : Int)) = true := by simp; omega
            clear hcw hcells hk4 htag
            cases hin : inn (d - 1) l[k] with
            | none =>
              have IK := hid (show ∀ w', TVv S w' l[k] (Value.agg #[Value.int .i64 l[k].tag, Value.int .u64 (l[k].num : Int), Value.slice ea l[k].byt.length ecap, Value.slice ea' l[k].lst.length ecap']) → Calls Tryz.prog 66 #[(Value.agg #[Value.int .i64 l[k].tag, Value.int .u64 (l[k].num : Int), Value.slice ea l[k].byt.length ecap, Value.slice ea' l[k].lst.length ecap']), .int .i64 ((d : Int) - 1)] w' (RetI w' (-1)) from fun w' h => by
                have hh := IH.out l[k] _ w' hd0 h
                rwa [show innI (d - 1) l[k] = -1 by rw [innI, hin]] at hh)
              have HR2 := hid (inn_elem_none (tag := tag) (n := n) (b := b) (l := l) (d := d) (i := k + 1) (by rw [HSN.out, hin]; rfl))
              clear hin
              go_wp2_with (go_at_call 66; refine (IK.out _ (HTV.out.fr ((Fr.refl (fun _ => False) wr).alloc _) (fun _ _ h => h.elim))).mono ?_; rintro e w2 ⟨rfl, hb2⟩)
              go_ret
              exact ⟨ret_int HR2.out.symm, (hB.alloc (by have := hB.size; omega) _).trans (hb2.mono (by have := hB.size; simp; omega))⟩
            | some q =>
              have hq := inn_le hin
              have IK := hid (show ∀ w', TVv S w' l[k] (Value.agg #[Value.int .i64 l[k].tag, Value.int .u64 (l[k].num : Int), Value.slice ea l[k].byt.length ecap, Value.slice ea' l[k].lst.length ecap']) → Calls Tryz.prog 66 #[(Value.agg #[Value.int .i64 l[k].tag, Value.int .u64 (l[k].num : Int), Value.slice ea l[k].byt.length ecap, Value.slice ea' l[k].lst.length ecap']), .int .i64 ((d : Int) - 1)] w' (RetI w' ((q : Int))) from fun w' h => by
                have hh := IH.out l[k] _ w' hd0 h
                rwa [show innI (d - 1) l[k] = (q : Int) by rw [innI, hin]] at hh)
              have HSQ := hid (show inns (d - 1) (l.take (k + 1)) = some (s + (3 + q)) by rw [HSN.out, hin]; rfl)
              clear hin
              by_cases hbig : 65535 < L + b.length + s + (3 + q)
              · have HR2 := hid (inn_elem_big (tag := tag) (n := n) (b := b) (l := l) (d := d) (i := k + 1) HSQ.out (by rw [HLL.out]; omega))
                go_wp2_with (go_at_call 66; refine (IK.out _ (HTV.out.fr ((Fr.refl (fun _ => False) wr).alloc _) (fun _ _ h => h.elim))).mono ?_; rintro e w2 ⟨rfl, hb2⟩)

                go_ret
                exact ⟨ret_int HR2.out.symm, (hB.alloc (by have := hB.size; omega) _).trans (hb2.mono (by have := hB.size; simp; omega))⟩
              · go_wp2_with (go_at_call 66; refine (IK.out _ (HTV.out.fr ((Fr.refl (fun _ => False) wr).alloc _) (fun _ _ h => h.elim))).mono ?_; rintro e w2 ⟨rfl, hb2⟩)

                go_roundw
                case rel => first | exact ⟨k + 1, s + (3 + q), by omega, by go_num, HSQ.out, by go_num, .inr (by omega), (hB.alloc (by have := hB.size; omega) _).trans (hb2.mono (by have := hB.size; simp; omega))⟩ | ((repeat apply Exists.intro); refine ⟨?_, rfl⟩; exact ⟨k + 1, s + (3 + q), by omega, by go_num, HSQ.out, by go_num, .inr (by omega), (hB.alloc (by have := hB.size; omega) _).trans (hb2.mono (by have := hB.size; simp; omega))⟩)
                case measure => simp [intOf]; omega
          · obtain rfl : k = l.length := by omega
            have HS2 := HS.out
            rw [List.take_length] at HS2
            have HS3 := hid HS2
            clear HS2
            by_cases hbig : 65535 < L + b.length + s
            · have HR2 := hid (inn_elem_big (tag := tag) (n := n) (b := b) (l := l) (d := d) (i := l.length) (s := s) HS.out (by rw [HLL.out]; exact hbig))
              go_wp2
              go_ret
              exact ⟨ret_int HR2.out.symm, hB⟩
            · have HR2 := hid (inn_all HD.out HS3.out (by rw [HLL.out]; omega))
              go_wp2
              go_ret
              exact ⟨ret_int (by rw [HR2.out, HLL.out]), hB⟩
  · have HO := hid (show onlyB tag n b l.length = false by simpa using ho1)
    rw [inn_no (fun h => ho1 h.1)]
    clear ho1
    go_enter Tryz.func66, Tryz.ntmps66
    go_wp2_with (go_at_call 77; refine (only_mk _ _ _ _ _ _ false HO.out (HV.out.fr ((Fr.refl (fun _ => False) w).alloc _) (fun _ _ h => h.elim))).mono ?_; rintro e w1 ⟨rfl, hb1⟩; obtain ⟨hc1, hf1⟩ := wold hb1)
    go_ret
    exact ⟨rfl, ((Below.refl _ _).alloc (Nat.le_refl _) _).trans (hb1.mono (by simp))⟩
end Go.Proofs.YtdbpkiddiehliaaGreat
