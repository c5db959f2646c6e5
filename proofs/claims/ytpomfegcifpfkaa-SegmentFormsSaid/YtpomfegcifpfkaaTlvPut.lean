/- tlv's only and inner. -/
import Derived.Test.YtpomfegcifpfkaaTlvA
import Derived.Test.YtpomfegcifpfkaaShelf
import Derived.Test.YtpomfegcifpfkaaEqual
import Derived.Deep.QuietTactic
import Derived.BigQuiet
import Derived.Outline
import Derived.Test.YtpomfegcifpfkaaPureTlv2
import Derived.Deep.RegionHeld3
import Derived.Deep.RegionLaw
import Derived.Deep.DeepCutAuto
import Derived.Deep.CutBlock
namespace Go.Proofs.Ytpomfegcifpfkaa
open Go Go.RowKit
theorem onlyB_1 (n : Nat) (b : List UInt8) (k : Nat) : onlyB 1 n b k = (b.isEmpty && !decide (0 < k)) := by
  cases k <;> simp [onlyB]
theorem onlyB_2 (n : Nat) (b : List UInt8) (k : Nat) : onlyB 2 n b k = (!((n : Int) != 0) && !decide (0 < k)) := by
  cases k <;> cases n <;> simp [onlyB] <;> omega
theorem onlyB_3 (n : Nat) (b : List UInt8) (k : Nat) : onlyB 3 n b k = (!((n : Int) != 0) && !decide (0 < b.length)) := by
  cases b <;> cases n <;> simp [onlyB] <;> omega
set_option maxRecDepth 100000 in
set_option maxHeartbeats 1000000 in
theorem only_ok {S : Nat → Prop} (v : TV) (x : Value) (w : World) (hv : TVv S w v x) :
    Calls Try.prog 65 #[x] w fun e w' => e = .returned (.bool (onlyB v.tag v.num v.byt v.lst.length)) ∧ Below w.heap.size w w' := by
  obtain ⟨c0, c1, c2, c3, rfl, h⟩ := hv
  obtain ⟨hn, vb, vl, ks, hc, hb, hr, _⟩ := h.cells
  simp only [List.cons.injEq, and_true] at hc
  obtain ⟨rfl, rfl, rfl, rfl⟩ := hc
  obtain ⟨a, c, rfl, ⟨hlb, _, hcm⟩, _, _⟩ := hb
  obtain ⟨_, a', c', rfl, ⟨hll, _, hcm'⟩, _, _⟩ := hr
  unfold maxLen at hcm hcm'
  obtain ⟨tag, n, b, l⟩ := v
  simp only [TV.tag, TV.num, TV.byt, TV.lst] at *
  clear h
  rename_i hX1 hX2 hX3 hX4
  clear hX1 hX2 hX3 hX4
  by_cases h1 : tag = 1
  · subst h1
    go_enter Try.func65, Try.ntmps65
    go_wp2
    go_quiet (fail)
    go_wp2
    all_goals
      go_ret
      refine ⟨ret_bool ?_, below_dN ((Below.refl _ _).alloc (Nat.le_refl _) _) _⟩
      rw [onlyB_1]
      simp [*]
  by_cases h2 : tag = 2
  · subst h2
    go_enter Try.func65, Try.ntmps65
    go_wp2
    go_quiet (fail)
    go_wp2
    all_goals
      go_ret
      refine ⟨ret_bool ?_, below_dN ((Below.refl _ _).alloc (Nat.le_refl _) _) _⟩
      rw [onlyB_2]
      simp [*]
  by_cases h3 : tag = 3
  · subst h3
    go_enter Try.func65, Try.ntmps65
    go_wp2
    go_quiet (fail)
    go_wp2
    all_goals
      go_ret
      refine ⟨ret_bool ?_, below_dN ((Below.refl _ _).alloc (Nat.le_refl _) _) _⟩
      rw [onlyB_3]
      simp [*]
  · have e1 : (tag == 1) = false := by simp [h1]
    have e2 : (tag == 2) = false := by simp [h2]
    have e3 : (tag == 3) = false := by simp [h3]
    have f1 : ((1 : Int) == tag) = false := by simp; omega
    have f2 : ((2 : Int) == tag) = false := by simp; omega
    have f3 : ((3 : Int) == tag) = false := by simp; omega
    have HO := hid (show onlyB tag n b l.length = false by simp [onlyB, h1, h2, h3])
    clear h1 h2 h3
    go_enter Try.func65, Try.ntmps65
    go_wp2
    go_quiet (fail)
    go_wp2
    all_goals
      go_ret
      exact ⟨ret_bool HO.out.symm, below_dN ((Below.refl _ _).alloc (Nat.le_refl _) _) _⟩
end Go.Proofs.Ytpomfegcifpfkaa
/- tlv's inner: how many bytes a value has behind its first three. -/
namespace Go.Proofs.Ytpomfegcifpfkaa
open Go Go.RowKit
theorem len64_ok (n : Nat) (w : World) (hn : n < 18446744073709551616) : Calls Try.prog 57 #[.int .u64 (n : Int)] w fun e w' => e = .returned (.int .i64 (Lib.bitLen n : Int)) ∧ w' = w := by
  have h := Try.bits_Len64 (n : Int) w (by omega) (by omega)
  rw [Int.toNat_natCast] at h
  exact h
theorem only_mk {S : Nat → Prop} (tag : Int) (n : Nat) (b : List UInt8) (l : List TV) (x : Value) (w : World) (o : Bool) (ho : onlyB tag n b l.length = o) (hv : TVv S w (.mk tag n b l) x) :
    Calls Try.prog 65 #[x] w fun e w' => e = .returned (.bool o) ∧ Below w.heap.size w w' := ho ▸ only_ok _ x w hv
/-- What inner answers, once it is known. -/
def RetI (w : World) (r : Int) (e : Ending) (w' : World) : Prop := e = .returned (.int .i64 r) ∧ Below w.heap.size w w'
set_option maxRecDepth 100000 in
set_option maxHeartbeats 2000000 in
theorem inner_step {S : Nat → Prop} (d : Nat) (hd : d ≤ 100) (v : TV) (x : Value) (w : World) (hv : TVv S w v x)
    (ih : ∀ (v : TV) (x : Value) (w : World), d ≠ 0 → TVv S w v x → Calls Try.prog 56 #[x, .int .i64 ((d : Int) - 1)] w (RetI w (innI (d - 1) v))) :
    Calls Try.prog 56 #[x, .int .i64 (d : Int)] w (RetI w (innI d v)) := by
  have HV := hid hv
  obtain ⟨c0, c1, c2, c3, rfl, h⟩ := hv
  obtain ⟨hn, vb, vl, ks, hc, hb, hr, hch⟩ := h.cells
  simp only [List.cons.injEq, and_true] at hc
  obtain ⟨rfl, rfl, rfl, rfl⟩ := hc
  obtain ⟨a, c, rfl, ⟨hlb, hbl, hcm⟩, _, _⟩ := hb
  have HR := hid hr
  have HC := hid hch
  obtain ⟨_, a', c', rfl, ⟨hll, hlim, hcm'⟩, _, h4⟩ := hr
  have H4 := hid h4
  unfold maxLen at hcm hcm'
  obtain ⟨tag, n, b, l⟩ := v
  simp only [TV.tag, TV.num, TV.byt, TV.lst] at *
  clear h hch h4
  rename_i hX1 hX2 hX3
  clear hX1 hX2 hX3
  have IH := hid ih
  clear ih
  by_cases ho1 : onlyB tag n b l.length = true
  · have HO := hid ho1
    by_cases ht : tag = 3 ∧ d = 0
    · obtain ⟨rfl, rfl⟩ := ht
      rw [inn_no (fun h => h.2 rfl rfl)]
      clear ho1
      go_enter Try.func56, Try.ntmps56
      go_wp2_with (go_at_call 65; refine (only_mk _ _ _ _ _ _ true HO.out (HV.out.fr ((Fr.refl (fun _ => False) w).alloc _) (fun _ _ h => h.elim))).mono ?_; rintro e w1 ⟨rfl, hb1⟩; obtain ⟨hc1, hf1⟩ := wold hb1)
      go_ret
      exact ⟨rfl, ((Below.refl _ _).alloc (Nat.le_refl _) _).trans (hb1.mono (by simp))⟩
    · have h0 : onlyB tag n b l.length = true ∧ (tag = 3 → d ≠ 0) := ⟨ho1, fun h1 h2 => ht ⟨h1, h2⟩⟩
      have HD := hid h0
      have htest : (tag == 3) = false ∨ ((tag == 3) = true ∧ (((d : Nat) : Int) == 0) = false) := by
        by_cases e : tag = 3
        · exact .inr ⟨by simp [e], by simp; exact h0.2 e⟩
        · exact .inl (by simp [e])
      have hL := bitLen_len n hn
      have hk := bitLen_le n
      have hL' : ((Lib.bitLen n : Int) + 7) / 8 = ((numBytes n).length : Int) := by omega
      have hLb : (numBytes n).length ≤ 8 := by omega
      have HLEN := hid (len64_ok n · hn)
      generalize hkk : Lib.bitLen n = k at *
      generalize hLL : (numBytes n).length = L at *
      have HLL := hid hLL
      clear ho1 h0 hL hLL hkk ht
      rcases htest with h3 | ⟨h3, h30⟩
      all_goals
        go_enter Try.func56, Try.ntmps56
        go_wp2_with (go_at_call 65; refine (only_mk _ _ _ _ _ _ true HO.out (HV.out.fr ((Fr.refl (fun _ => False) w).alloc _) (fun _ _ h => h.elim))).mono ?_; rintro e w1 ⟨rfl, hb1⟩; obtain ⟨hc1, hf1⟩ := wold hb1)
        go_quiet ((go_at_call 57; exact Calls.quiet_of_same (HLEN.out _)))
        go_wp2
        have hB0 : Below w.heap.size w (w1.drewN nq) := below_dN (((Below.refl _ _).alloc (Nat.le_refl _) _).trans (hb1.mono (by simp))) nq
        have HB0 := hid hB0
        clear hc1 hf1 hb1 hB0
        simp only [hL']
        clear hL'
        go_loopw [5, 33] (fun m i wr => ∃ k s : Nat, k ≤ l.length ∧ i = .int .i64 k ∧ inns (d - 1) (l.take k) = some s ∧ m = .int .i64 ((L + b.length + s : Nat) : Int) ∧ (k = 0 ∧ s = 0 ∨ L + b.length + s ≤ 65535) ∧ Below w.heap.size w wr) (fun _ i _ => l.length - (intOf i).toNat)
        case atStart => exact ⟨0, 0, by omega, rfl, by rw [List.take_zero, inns], by rw [Nat.add_zero]; go_num, .inl ⟨rfl, rfl⟩, HB0.out⟩
        case round =>
          obtain ⟨k, s, hkl, rfl, hs, rfl, hbd, hB⟩ := hrel
          have HS := hid hs
          have HBD := hid hbd
          have hbd' : L + b.length + s ≤ 140737488355328 + 65535 + 8 := by rcases hbd with ⟨_, rfl⟩ | h <;> omega
          clear hs hbd
          by_cases hlt : k < l.length
          · rcases H4.out with h0 | ⟨blk, off, ha, hblk, _, hcells⟩
            · omega
            subst ha
            obtain ⟨ec, hec, hk4⟩ := HC.out.get (i := k) (v := l[k]) (List.getElem?_eq_getElem hlt)
            have HTV := hid (show TVv S wr l[k] (.agg ec.toArray) from by
              obtain ⟨_, vb, vl, ks', rfl, _⟩ := hec.cells
              exact ⟨_, _, _, _, rfl, TVr.fr (Fr.of_below (S := fun _ => False) hB) (fun _ _ h => h.elim) _ _ hec⟩)
            have hcw : ∀ j x, ec[j]? = some x → wr.cell? ⟨blk, off + k * 4 + j, none⟩ = some x := fun j x hx => by
              rw [hB.cell (p := ⟨blk, off + k * 4 + j, none⟩) hblk, Nat.add_assoc]
              exact hcells _ _ (hk4 j x hx)
            obtain ⟨hen, evb, evl, eks, rfl, heb, her, _⟩ := hec.cells
            obtain ⟨ea, ecap, rfl, _⟩ := heb
            obtain ⟨_, ea', ecap', rfl, _⟩ := her
            have k0 := hcw 0 _ rfl
            have k1 := hcw 1 _ rfl
            have k2 := hcw 2 _ rfl
            have k3 := hcw 3 _ rfl
            rw [Nat.add_zero] at k0
            have htag := onlyB_list HD.out.1 (by omega)
            have hd0 : d ≠ 0 := HD.out.2 htag
            have hd1 : (1 : Int) ≤ (d : Int) := by omega
            have HSN := hid (inns_snoc HS.out hlt)
            have hdl : decide ((k : Int) < (l.length : Int)) = true := by simp; omega
            clear hcw hcells hk4 htag
            cases hin : inn (d - 1) l[k] with
            | none =>
              have IK := hid (show ∀ w', TVv S w' l[k] (Value.agg #[Value.int .i64 l[k].tag, Value.int .u64 (l[k].num : Int), Value.slice ea l[k].byt.length ecap, Value.slice ea' l[k].lst.length ecap']) → Calls Try.prog 56 #[(Value.agg #[Value.int .i64 l[k].tag, Value.int .u64 (l[k].num : Int), Value.slice ea l[k].byt.length ecap, Value.slice ea' l[k].lst.length ecap']), .int .i64 ((d : Int) - 1)] w' (RetI w' (-1)) from fun w' h => by
                have hh := IH.out l[k] _ w' hd0 h
                rwa [show innI (d - 1) l[k] = -1 by rw [innI, hin]] at hh)
              have HR2 := hid (inn_elem_none (tag := tag) (n := n) (b := b) (l := l) (d := d) (i := k + 1) (by rw [HSN.out, hin]; rfl))
              clear hin
              go_wp2_with (go_at_call 56; refine (IK.out _ (HTV.out.fr ((Fr.refl (fun _ => False) wr).alloc _) (fun _ _ h => h.elim))).mono ?_; rintro e w2 ⟨rfl, hb2⟩)
              go_ret
              exact ⟨ret_int HR2.out.symm, (hB.alloc (by have := hB.size; omega) _).trans (hb2.mono (by have := hB.size; simp; omega))⟩
            | some q =>
              have hq := inn_le hin
              have IK := hid (show ∀ w', TVv S w' l[k] (Value.agg #[Value.int .i64 l[k].tag, Value.int .u64 (l[k].num : Int), Value.slice ea l[k].byt.length ecap, Value.slice ea' l[k].lst.length ecap']) → Calls Try.prog 56 #[(Value.agg #[Value.int .i64 l[k].tag, Value.int .u64 (l[k].num : Int), Value.slice ea l[k].byt.length ecap, Value.slice ea' l[k].lst.length ecap']), .int .i64 ((d : Int) - 1)] w' (RetI w' ((q : Int))) from fun w' h => by
                have hh := IH.out l[k] _ w' hd0 h
                rwa [show innI (d - 1) l[k] = (q : Int) by rw [innI, hin]] at hh)
              have HSQ := hid (show inns (d - 1) (l.take (k + 1)) = some (s + (3 + q)) by rw [HSN.out, hin]; rfl)
              clear hin
              by_cases hbig : 65535 < L + b.length + s + (3 + q)
              · have HR2 := hid (inn_elem_big (tag := tag) (n := n) (b := b) (l := l) (d := d) (i := k + 1) HSQ.out (by rw [HLL.out]; omega))
                go_wp2_with (go_at_call 56; refine (IK.out _ (HTV.out.fr ((Fr.refl (fun _ => False) wr).alloc _) (fun _ _ h => h.elim))).mono ?_; rintro e w2 ⟨rfl, hb2⟩)

                go_ret
                exact ⟨ret_int HR2.out.symm, (hB.alloc (by have := hB.size; omega) _).trans (hb2.mono (by have := hB.size; simp; omega))⟩
              · go_wp2_with (go_at_call 56; refine (IK.out _ (HTV.out.fr ((Fr.refl (fun _ => False) wr).alloc _) (fun _ _ h => h.elim))).mono ?_; rintro e w2 ⟨rfl, hb2⟩)

                go_roundw
                case rel => first | exact ⟨k + 1, s + (3 + q), by omega, by go_num, HSQ.out, by go_num, .inr (by omega), (hB.alloc (by have := hB.size; omega) _).trans (hb2.mono (by have := hB.size; simp; omega))⟩ | ((repeat apply Exists.intro); refine ⟨?_, rfl⟩; exact ⟨k + 1, s + (3 + q), by omega, by go_num, HSQ.out, by go_num, .inr (by omega), (hB.alloc (by have := hB.size; omega) _).trans (hb2.mono (by have := hB.size; simp; omega))⟩)
                case measure => simp [intOf]; omega
          · obtain rfl : k = l.length := by omega
            have HS2 := HS.out
            rw [List.take_length] at HS2
            have HS3 := hid HS2
            clear HS2
            by_cases hbig : 65535 < L + b.length + s
            · have HR2 := hid (inn_elem_big (tag := tag) (n := n) (b := b) (l := l) (d := d) (i := l.length) (s := s) HS.out (by rw [HLL.out]; exact hbig))
              go_wp2
              go_ret
              exact ⟨ret_int HR2.out.symm, hB⟩
            · have HR2 := hid (inn_all HD.out HS3.out (by rw [HLL.out]; omega))
              go_wp2
              go_ret
              exact ⟨ret_int (by rw [HR2.out, HLL.out]), hB⟩
  · have HO := hid (show onlyB tag n b l.length = false by simpa using ho1)
    rw [inn_no (fun h => ho1 h.1)]
    clear ho1
    go_enter Try.func56, Try.ntmps56
    go_wp2_with (go_at_call 65; refine (only_mk _ _ _ _ _ _ false HO.out (HV.out.fr ((Fr.refl (fun _ => False) w).alloc _) (fun _ _ h => h.elim))).mono ?_; rintro e w1 ⟨rfl, hb1⟩; obtain ⟨hc1, hf1⟩ := wold hb1)
    go_ret
    exact ⟨rfl, ((Below.refl _ _).alloc (Nat.le_refl _) _).trans (hb1.mono (by simp))⟩
end Go.Proofs.Ytpomfegcifpfkaa
/- tlv's writer: a value's bytes behind what is there. -/
namespace Go.Proofs.Ytpomfegcifpfkaa
open Go Go.RowKit
/-- A writer's block: a slice of its own, with these bytes. -/
structure WS (w : World) (wb base : Nat) (a : Option Addr) (c : Nat) (acc : List UInt8) : Prop where
  heap : w.heap[wb]? = some (.cells #[.slice a acc.length c] 110 (0, 0))
  own : OwnB w base (.slice a acc.length c) acc
  apart : ¬ mine (.slice a acc.length c) wb
/-- Of w nothing has turned in w' but the writer's block and its bytes'. -/
structure WF (w : World) (wb : Nat) (v : Value) (w' : World) (v' : Value) : Prop where
  fr : Fr (fun k => k = wb ∨ mine v k) w w'
  new : ∀ k, mine v' k → mine v k ∨ w.heap.size ≤ k
theorem WF.refl (w : World) (wb : Nat) (v : Value) : WF w wb v w v := ⟨Fr.refl _ _, fun _ h => .inl h⟩
theorem WF.trans {w w1 w2 : World} {wb : Nat} {v v1 v2 : Value} (h : WF w wb v w1 v1) (k : WF w1 wb v1 w2 v2) : WF w wb v w2 v2 :=
  ⟨h.fr.trans' k.fr (fun i hi hs => hs.imp id (fun hm => (h.new i hm).resolve_right (by omega))), fun i hi => by
    rcases k.new i hi with hm | hm
    · exact h.new i hm
    · exact .inr (Nat.le_trans h.fr.size hm)⟩
theorem WF.of_fr {w w1 : World} {wb : Nat} {v : Value} (h : Fr (fun _ => False) w w1) : WF w wb v w1 v := ⟨h.mono (fun _ _ h => h.elim), fun _ h => .inl h⟩
/-- Bytes more: an append in some later world, and the store of what came of it. -/
theorem WS.step {w w1 w2 : World} {wb base n' : Nat} {a a' : Option Addr} {c c' : Nat} {acc more : List UInt8} {cs : List Value} (h : WS w wb base a c acc) (h1 : Fr (fun _ => False) w w1) (hn' : n' = (acc ++ more).length) (hcs : cs = bcells (acc ++ more))
    (ho : Own w2 base 5 1 (.slice a' n' c') n' cs) (hf : Fr (mine (.slice a acc.length c)) w1 w2)
    (hm : ∀ k, mine (.slice a' n' c') k → mine (.slice a acc.length c) k ∨ w1.heap.size ≤ k) :
    WS (w2.setCell ⟨wb, 0, none⟩ (.slice a' n' c')) wb base a' c' (acc ++ more) ∧ WF w wb (.slice a acc.length c) (w2.setCell ⟨wb, 0, none⟩ (.slice a' n' c')) (.slice a' (acc ++ more).length c') := by
  subst hn' hcs
  have hwb := lt_of_heap h.heap
  have hn : ¬ mine (.slice a' (acc ++ more).length c') wb := fun hk => (hm wb hk).elim h.apart (fun hl => by have := h1.size; omega)
  have hh : w2.heap[wb]? = some (.cells #[.slice a acc.length c] 110 (0, 0)) := hf.heap (h1.heap h.heap id) h.apart
  refine ⟨⟨heap_store hh 0 _, Own.fr ho ((Fr.refl (· = wb) w2).setCell (p := ⟨wb, 0, none⟩) (fun _ => rfl) _) (fun k hk e => hn (e ▸ hk)), hn⟩, ?_, fun k hk => (hm k hk).imp id (fun hl => Nat.le_trans h1.size hl)⟩
  exact ((h1.mono (fun _ _ h => h.elim)).trans (hf.mono (fun _ _ h => .inr h))).setCell (p := ⟨wb, 0, none⟩) (fun _ => .inl rfl) _
/-- A block that is not the writer's stays over such a step. -/
theorem WS.keeps {w w1 w2 : World} {wb base n' k : Nat} {a a' : Option Addr} {c c' : Nat} {acc : List UInt8} {o : Obj} (h : WS w wb base a c acc) (hk : w.heap.size ≤ k) (hf : Fr (mine (.slice a acc.length c)) w1 w2) (ho : w1.heap[k]? = some o) : (w2.setCell ⟨wb, 0, none⟩ (.slice a' n' c')).heap[k]? = some o := by
  have hwb := lt_of_heap h.heap
  rw [heap_setCell_other _ _ _ _ (by show k ≠ wb; omega)]
  exact hf.heap ho (fun hm => by have := (Own.mine_ge h.own hm).2; omega)
theorem enc_head {tag : Int} {d n : Nat} {b : List UInt8} {l : List TV} (h : (inn d (.mk tag n b l)).isSome = true) : tag = 1 ∨ tag = 2 ∨ tag = 3 := by
  rw [inn] at h
  split at h
  · rename_i h1
    have := h1.1
    unfold onlyB at this
    split at this
    · exact .inl ‹_›
    · split at this
      · exact .inr (.inl ‹_›)
      · split at this
        · exact .inr (.inr ‹_›)
        · cases this
  · cases h
theorem row_at {w : World} {g n : Nat} {cs : Array Value} {e : TypeId} (hg : w.heap[g]? = some (.cells cs e (0, 0))) (hn : cs.size = n) (hl : n ≤ 140737488355328) : Row (fun _ => False) w (.slice (some ⟨g, 0, none⟩) n n) n 1 cs.toList := by
  refine ⟨by simp [hn], _, n, rfl, ⟨Nat.le_refl _, hl, by unfold maxLen; omega⟩, (fun h => nomatch h), .inr ⟨g, 0, rfl, lt_of_heap hg, id, fun j x hx => ?_⟩⟩
  rw [cell_of_heap hg, Nat.zero_add, ← Array.getElem?_toList]
  exact hx
theorem inns_each {d : Nat} : ∀ {l : List TV}, (inns d l).isSome = true → ∀ (i : Nat) (hi : i < l.length), (inn d l[i]).isSome = true
  | [], _, i, hi => by simp at hi
  | v :: l, h, i, hi => by
    rw [inns] at h
    cases hv : inn d v with
    | none => rw [hv] at h; cases h
    | some k =>
      rw [hv] at h
      cases i with
      | zero => simp [hv]
      | succ i =>
        simp only [List.getElem_cons_succ]
        exact inns_each (by simpa using h) i (by simpa using hi)
theorem inn_each {d : Nat} {tag : Int} {n : Nat} {b : List UInt8} {l : List TV} (h : (inn d (.mk tag n b l)).isSome = true) (i : Nat) (hi : i < l.length) : (inn (d - 1) l[i]).isSome = true := by
  rw [inn] at h
  split at h
  · refine inns_each ?_ i hi
    cases hh : inns (d - 1) l with
    | none => rw [hh] at h; cases h
    | some s => rfl
  · cases h
theorem WS.some {w : World} {wb base : Nat} {a : Option Addr} {c : Nat} {acc : List UInt8} (h : WS w wb base a c acc) (hl : 0 < acc.length) : ∃ g, a = some ⟨g, 0, none⟩ ∧ g ≠ wb ∧ w.heap[g]?.isSome = true ∧ w.frozen? ⟨g, acc.length, none⟩ = false := by
  obtain ⟨h0, ⟨h1, _⟩ | ⟨g, cap, cur, hv, hb, hg, r⟩⟩ := h.own
  · omega
  · injection hv with e1 _ e3
    refine ⟨g, e1, fun e => ?_, by rw [hg]; rfl, frozen_of_row w g _ _ _ hg⟩
    have := h.heap
    rw [← e, hg] at this
    injection this with this
    injection this with _ ht _
    exact absurd ht (by decide)
theorem inn_pos {d : Nat} {tag : Int} {n : Nat} {b : List UInt8} {l : List TV} (h : (inn d (.mk tag n b l)).isSome = true) (hl : 0 < l.length) : d ≠ 0 := by
  rw [inn] at h
  split at h
  · rename_i hc
    exact hc.2 (onlyB_list hc.1 hl)
  · cases h
theorem encs_append : ∀ (l m : List TV), encs (l ++ m) = encs l ++ encs m
  | [], m => by simp [encs]
  | v :: l, m => by rw [List.cons_append, encs, encs, encs_append l m, List.append_assoc]
theorem encs_snoc {l : List TV} {i : Nat} (hi : i < l.length) : encs (l.take (i + 1)) = encs (l.take i) ++ enc l[i] := by
  rw [List.take_succ_eq_append_getElem hi, encs_append, encs, encs, List.append_nil]
theorem WS.fr {w w' : World} {wb base : Nat} {a : Option Addr} {c : Nat} {acc : List UInt8} (h : WS w wb base a c acc) (hf : Fr (fun _ => False) w w') : WS w' wb base a c acc :=
  ⟨hf.heap h.heap id, Own.fr h.own hf (fun _ _ h => h), h.apart⟩
theorem bcells_patch (acc body : List UInt8) (t x y : UInt8) : ((bcells (acc ++ ([t, 0, 0] ++ body))).set (acc.length + 1) (bcell x)).set (acc.length + 2) (bcell y) = bcells (acc ++ ([t, x, y] ++ body)) := by
  simp [bcells]
/-- The two bytes of the length are laid. -/
theorem WS.patch {w wr : World} {wb base g c2 : Nat} {v : Value} {acc body : List UInt8} {t : UInt8} (hw : WS wr wb base (Option.some ⟨g, 0, none⟩) c2 (acc ++ ([t, 0, 0] ++ body)))
    (hwf : WF w wb v wr (.slice (Option.some ⟨g, 0, none⟩) (acc ++ ([t, 0, 0] ++ body)).length c2)) (hgw : g ≠ wb) (x y : UInt8) :
    WS ((wr.setCell ⟨g, acc.length + 1, none⟩ (bcell x)).setCell ⟨g, acc.length + 2, none⟩ (bcell y)) wb base (Option.some ⟨g, 0, none⟩) c2 (acc ++ ([t, x, y] ++ body)) ∧
    WF w wb v ((wr.setCell ⟨g, acc.length + 1, none⟩ (bcell x)).setCell ⟨g, acc.length + 2, none⟩ (bcell y)) (.slice (Option.some ⟨g, 0, none⟩) (acc ++ ([t, x, y] ++ body)).length c2) := by
  have hl : (acc ++ ([t, x, y] ++ body)).length = (acc ++ ([t, 0, 0] ++ body)).length := by simp
  have hl3 : 3 + acc.length ≤ (acc ++ ([t, 0, 0] ++ body)).length := by simp; omega
  have h1 := (Own.store hw.own (acc.length + 1) (by omega) (bcell x)).2
  have h2 := (Own.store h1 (acc.length + 2) (by omega) (bcell y)).2
  rw [bcells_patch] at h2
  rw [hl]
  have hc0 : c2 ≠ 0 := by
    obtain ⟨_, _, hv, hf⟩ := Own.len hw.own
    injection hv with _ _ e
    have := hf.1
    omega
  have hmg : mine (.slice (Option.some ⟨g, 0, none⟩) (acc ++ ([t, 0, 0] ++ body)).length c2) g := ⟨0, _, c2, rfl, hc0⟩
  refine ⟨⟨?_, ?_, ?_⟩, ?_, hwf.new⟩
  · rw [hl, heap_setCell_other _ _ _ _ (by exact fun e => hgw e.symm), heap_setCell_other _ _ _ _ (by exact fun e => hgw e.symm)]
    exact hw.heap
  · unfold OwnB; rw [hl]; exact h2
  · rw [hl]; exact hw.apart
  · have hS : g < w.heap.size → (g = wb ∨ mine v g) := fun hk => .inr ((hwf.new g hmg).resolve_right (by omega))
    exact (hwf.fr.setCell (p := ⟨g, _, none⟩) hS _).setCell (p := ⟨g, _, none⟩) hS _
/-- Where the writer stands within a call: what it has written, and the call's own value in its box. -/
def VS (w : World) (wb base : Nat) (a : Option Addr) (c : Nat) (acc : List UInt8) (box : Array Value) (wr : World) (now : List UInt8) : Prop :=
  ∃ a' c', WS wr wb base a' c' now ∧ WF w wb (.slice a acc.length c) wr (.slice a' now.length c') ∧ wr.heap[w.heap.size]? = some (.cells box 74 (0, 0))
theorem Own.elem {w : World} {base : Nat} {e : TypeId} {size : Nat} {v : Value} {n : Nat} {cs : List Value} (h : Own w base e size v n cs) {k : Nat} (hk : mine v k) : ∃ cur, w.heap[k]? = some (.cells cur e (0, 0)) := by
  obtain ⟨off, m, c, hv, hc⟩ := hk
  obtain ⟨h0, ⟨rfl, a, h⟩ | ⟨g, cap, cur, h, hb, hg, r⟩⟩ := h
  · rw [h] at hv; injection hv with _ _ e; exact absurd e.symm hc
  · rw [h] at hv; injection hv with e1 _ _; injection e1 with e1; injection e1 with e1 _ _; subst e1; exact ⟨cur, hg⟩
theorem VS.step {w wl w1 w2 : World} {wb base n' : Nat} {a a1 a' : Option Addr} {c c1 c' : Nat} {acc now more : List UInt8} {box : Array Value} {cs : List Value}
    (hw : WS wl wb base a1 c1 now) (hwf : WF w wb (.slice a acc.length c) wl (.slice a1 now.length c1)) (hbox : wl.heap[w.heap.size]? = some (.cells box 74 (0, 0))) (h1 : Fr (fun _ => False) wl w1)
    (hn' : n' = (now ++ more).length) (hcs : cs = bcells (now ++ more)) (hwb : wb ≠ w.heap.size)
    (ho : Own w2 base 5 1 (.slice a' n' c') n' cs) (hf : Fr (mine (.slice a1 now.length c1)) w1 w2)
    (hm : ∀ k, mine (.slice a' n' c') k → mine (.slice a1 now.length c1) k ∨ w1.heap.size ≤ k) :
    VS w wb base a c acc box (w2.setCell ⟨wb, 0, none⟩ (.slice a' n' c')) (now ++ more) := by
  have hst := WS.step hw h1 hn' hcs ho hf hm
  refine ⟨a', c', hst.1, hwf.trans hst.2, ?_⟩
  rw [heap_setCell_other _ _ _ _ (by exact fun e => hwb e.symm)]
  refine hf.heap (h1.heap hbox id) (fun hk => ?_)
  obtain ⟨cur, hc⟩ := Own.elem hw.own hk
  rw [hbox] at hc
  injection hc with hc
  injection hc with _ he _
  exact absurd he (by decide)
/-- What the writer leaves. -/
def RetW (w : World) (wb base : Nat) (a : Option Addr) (c : Nat) (acc r : List UInt8) (e : Ending) (w' : World) : Prop :=
  e = .returned (.tuple #[]) ∧ ∃ a' c', WS w' wb base a' c' r ∧ WF w wb (.slice a acc.length c) w' (.slice a' r.length c')
set_option maxRecDepth 100000 in
set_option maxHeartbeats 2000000 in
theorem value_step {base : Nat} (d : Nat) (tag : Int) (n : Nat) (b : List UInt8) (l : List TV) (x : Value) (w : World) (wb : Nat) (a : Option Addr) (c : Nat) (acc : List UInt8)
    (hr : (inn d (.mk tag n b l)).isSome = true) (hw : WS w wb base a c acc) (hbase : base ≤ w.heap.size) (N : Nat) (hN : N ≤ 1099511627776) (hlen : acc.length ≤ N) (hv : TVv (fun k => k = wb ∨ mine (.slice a acc.length c) k) w (.mk tag n b l) x)
    (ih : d ≠ 0 → ∀ (v : TV) (x : Value) (w : World) (a : Option Addr) (c : Nat) (acc : List UInt8), (inn (d - 1) v).isSome = true → WS w wb base a c acc → base ≤ w.heap.size → acc.length ≤ N + 65546 + 65535 → TVv (fun k => k = wb ∨ mine (.slice a acc.length c) k) w v x →
      Calls Try.prog 45 #[.pointer (some ⟨wb, 0, none⟩), x] w (RetW w wb base a c acc (acc ++ enc v))) :
    Calls Try.prog 45 #[.pointer (some ⟨wb, 0, none⟩), x] w (RetW w wb base a c acc (acc ++ enc (.mk tag n b l))) := by
  have HV := hid hv
  obtain ⟨c0, c1, c2, c3, rfl, h⟩ := hv
  obtain ⟨hn, vb, vl, ks, hc, hb, hrow, hch⟩ := h.cells
  simp only [List.cons.injEq, and_true] at hc
  obtain ⟨rfl, rfl, rfl, rfl⟩ := hc
  have HB := hid hb
  obtain ⟨ab, cb, rfl, ⟨hlb, hbl, hcm⟩, _, _⟩ := hb
  have HR := hid hrow
  have HC := hid hch
  obtain ⟨_, al, cl, rfl, ⟨hll, hlim, hcm'⟩, _, h4⟩ := hrow
  have H4 := hid h4
  unfold maxLen at hcm hcm'
  simp only [TV.tag, TV.num, TV.byt, TV.lst] at *
  clear h hch h4
  have HRI := hid hr
  have htag := enc_head hr
  have IH := hid ih
  have HW := hid hw
  have hb65 : b.length ≤ 65535 := by
    obtain ⟨q, hq⟩ := Option.isSome_iff_exists.1 hr
    have h1 := inn_length _ _ _ hq
    have h2 := inn_le hq
    simp only [TV.body, List.length_append] at h1
    omega
  have he65 : (encs l).length ≤ 65535 := by
    obtain ⟨q, hq⟩ := Option.isSome_iff_exists.1 hr
    have h1 := inn_length _ _ _ hq
    have h2 := inn_le hq
    simp only [TV.body, List.length_append] at h1
    omega
  have HIN := hid (inn_each hr)
  have hmf : ∀ (fn : Fn) (first cap : Array Value) (w : World), (Instr.makeFunc fn first cap).run Try.prog w = .ok (.func fn first cap) w := fun _ _ _ _ => rfl
  have hwb := lt_of_heap hw.heap
  have hc0 : w.cell? ⟨wb, 0, none⟩ = some (.slice a acc.length c) := cell_of_heap hw.heap 0
  have hz0 : w.frozen? ⟨wb, 0, none⟩ = false := frozen_of_row w wb 0 _ _ hw.heap
  clear hr ih hw
  have ht0 : 0 ≤ tag := by omega
  have ht3 : tag ≤ 3 := by omega
  clear htag
  go_enter Try.func45, Try.ntmps45
  go_upto_region 2 with (fail)
  go_cut [] (fun wr => VS w wb base a c acc #[.int .i64 tag, .int .u64 (n : Int), .slice ab b.length cb, .slice al l.length cl] wr (acc ++ [UInt8.ofNat tag.toNat, 0, 0]))
  case first =>
    go_region_law ((refine step_append (v := .slice a acc.length c) (S := fun _ => False) rfl rfl etB rfl (Own.fr HW.out.own (by repeat (first | exact Fr.refl _ _ | refine Fr.drew ?_ | refine Fr.alloc ?_ _)) (fun _ _ h => h)) rfl (row_at (heap_alloc2_new w _ _) rfl (by omega)) (by simp [Value.oneCell']) (by omega) (by simp; omega) ?_; intro a1 c1 w1 ho1 hf1 hm1; have hc1 : w1.cell? ⟨wb, 0, none⟩ = some (.slice a acc.length c) := (by rw [hf1.cell (p := ⟨wb, 0, none⟩) (by simp; omega) HW.out.apart]; go_simp); have hz1 : w1.frozen? ⟨wb, 0, none⟩ = false := (by rw [hf1.frozen (p := ⟨wb, 0, none⟩) (by simp; omega) HW.out.apart]; go_simp)))
    all_goals
      go_wp2_with fail
      go_meet
      have hst := WS.step (more := [UInt8.ofNat tag.toNat, 0, 0]) HW.out (by repeat (first | exact Fr.refl _ _ | refine Fr.drew ?_ | refine Fr.alloc ?_ _)) (by simp) (by
        have ht8 : IntKind.u8.wrap tag = ((UInt8.ofNat tag.toNat).toNat : Int) := by
          simp [IntKind.wrap, IntKind.signed, IntKind.bits]; omega
        simp [bcells, bcell, ht8]) ho1 hf1 hm1
      exact ⟨a1, c1, hst.1, hst.2, WS.keeps HW.out (Nat.le_refl _) hf1 (by exact heap_alloc2_old w _ _)⟩
  case rest =>
    have hL := bitLen_len n hn
    have hk := bitLen_le n
    have hL' : ((Lib.bitLen n : Int) + 7) / 8 = ((numBytes n).length : Int) := by omega
    have hLb : (numBytes n).length ≤ 8 := by omega
    have HLEN := hid (len64_ok n · hn)
    have HNG := hid (numBytes_get n)
    generalize hkk : Lib.bitLen n = k at *
    generalize hLL : (numBytes n).length = L at *
    have HLL := hid hLL
    have HCUT := hid hcut
    obtain ⟨_, _, _, _, hbox⟩ := hcut
    have b1 : wc.cell? ⟨w.heap.size, 1, none⟩ = some (.int .u64 (n : Int)) := cell_of_heap hbox 1
    clear hL hLL hkk hbox hc0 hz0
    go_wp2_with (go_at_call 57; refine (HLEN.out _).mono ?_; rintro e w' ⟨rfl, rfl⟩)
    simp only [hL']
    clear hL' b1
    go_loopw [5] (fun s wl => ∃ j m : Nat, j + m = L ∧ s = .int .i64 ((8 * m : Nat) : Int) ∧ VS w wb base a c acc #[.int .i64 tag, .int .u64 (n : Int), .slice ab b.length cb, .slice al l.length cl] wl (acc ++ [UInt8.ofNat tag.toNat, 0, 0] ++ (numBytes n).take j)) (fun s _ => (intOf s).toNat)
    case atStart => exact ⟨0, L, by omega, by go_num, by rw [List.take_zero, List.append_nil]; exact HCUT.out⟩
    case round =>
      obtain ⟨j, m, hjm, rfl, hvs⟩ := hrel
      have hjl : j ≤ L := by omega
      have HJM := hid hjm
      clear hjm
      have HVS := hid hvs
      cases m with
      | succ m =>
        clear hvs
        have HG := hid (HNG.out L j rfl (by have := HJM.out; omega))
        have HTK := hid (show (numBytes n).take (j + 1) = (numBytes n).take j ++ [UInt8.ofNat (n / 256 ^ m % 256)] by
          have h1 := HG.out
          rw [show L - 1 - j = m from by have := HJM.out; omega] at h1
          rw [List.take_add_one, h1]; rfl)
        have hvs := HVS.out
        clear HVS
        have HAC := hid (show (acc ++ [UInt8.ofNat tag.toNat, 0, 0] ++ (numBytes n).take (j + 1)) = (acc ++ [UInt8.ofNat tag.toNat, 0, 0] ++ (numBytes n).take j) ++ [UInt8.ofNat (n / 256 ^ m % 256)] by rw [HTK.out, ← List.append_assoc])
        have hnl : (acc ++ [UInt8.ofNat tag.toNat, 0, 0] ++ (numBytes n).take j).length ≤ N + 11 := by
          simp only [List.length_append, List.length_take, List.length_cons, List.length_nil]; omega
        generalize acc ++ [UInt8.ofNat tag.toNat, 0, 0] ++ (numBytes n).take j = now at hvs HAC hnl
        obtain ⟨a1, c1, hw1, hwf1, hbox⟩ := hvs
        have b0 : wr.cell? ⟨wb, 0, none⟩ = some (.slice a1 now.length c1) := cell_of_heap hw1.heap 0
        have b1 : wr.cell? ⟨w.heap.size, 1, none⟩ = some (.int .u64 (n : Int)) := cell_of_heap hbox 1
        have hz : wr.frozen? ⟨wb, 0, none⟩ = false := frozen_of_row wr wb 0 _ _ hw1.heap
        have hwbl := lt_of_heap hw1.heap
        have hbxl := lt_of_heap hbox
        have hw1 := hid hw1
        have hwf1 := hid hwf1
        have hbox := hid hbox
        have hbw : base ≤ wr.heap.size := by have := hwf1.out.fr.size; omega
        obtain ⟨p, hp⟩ : ∃ p, p = 8 * m := ⟨_, rfl⟩
        have hp8 : ((8 * (m + 1) : Nat) : Int) = (p : Int) + 8 := by omega
        have hp64 : p ≤ 56 := by have := HJM.out; omega
        have HP := hid hp
        rw [hp8]
        have hwp : IntKind.i64.wrap (p : Int) = (p : Int) := IntWalk.i64_in _ (by omega)
        have hp0 : (0 : Int) ≤ (p : Int) := by omega
        clear hp hp8
        have HSH := hid (show IntKind.u8.wrap ((n : Int) / 2 ^ p) = ((UInt8.ofNat (n / 256 ^ m % 256)).toNat : Int) by
          rw [HP.out]
          have h2 : (2 : Nat) ^ (8 * m) = 256 ^ m := by rw [Nat.pow_mul]
          have h3 : ((2 : Int) ^ (8 * m)) = ((256 ^ m : Nat) : Int) := by rw [← h2]; simp
          rw [h3, UInt8.toNat_ofNat']
          simp [IntKind.wrap, IntKind.signed, IntKind.bits])
        go_upto_block 1 with (fail)
        go_cut [] (fun wz => VS w wb base a c acc #[.int .i64 tag, .int .u64 (n : Int), .slice ab b.length cb, .slice al l.length cl] wz (now ++ [UInt8.ofNat (n / 256 ^ m % 256)]))
        case first =>
          go_wp2_with fail
          go_region_law ((refine step_append (v := .slice a1 now.length c1) (S := fun _ => False) rfl rfl etB rfl (Own.fr hw1.out.own (by repeat (first | exact Fr.refl _ _ | refine Fr.drew ?_ | refine Fr.alloc ?_ _)) (fun _ _ h => h)) rfl (row_at (heap_alloc_new wr _) rfl (by omega)) (by simp [Value.oneCell']) (by omega) (by simp; omega) ?_; intro a2 c2 w2 ho2 hf2 hm2; have hc2 : w2.cell? ⟨wb, 0, none⟩ = some (.slice a1 now.length c1) := (by rw [hf2.cell (p := ⟨wb, 0, none⟩) (by simp; omega) hw1.out.apart]; go_simp); have hz2 : w2.frozen? ⟨wb, 0, none⟩ = false := (by rw [hf2.frozen (p := ⟨wb, 0, none⟩) (by simp; omega) hw1.out.apart]; go_simp)))
          all_goals
            go_wp2_with fail
            go_meet
            exact VS.step hw1.out hwf1.out hbox.out (by repeat (first | exact Fr.refl _ _ | refine Fr.drew ?_ | refine Fr.alloc ?_ _)) (by simp) (by rw [HSH.out]; simp [bcells, bcell]) (by omega) ho2 hf2 hm2
        case rest =>
          have HC6 := hid hcut
          clear hcut
          go_wp2
          go_roundw
          case rel => exact ⟨j + 1, m, by have := HJM.out; omega, by rw [← HP.out], by rw [HAC.out]; exact HC6.out⟩
          case measure => simp [intOf]; omega
      | zero =>
        obtain rfl : j = L := by have := HJM.out; omega
        clear hvs
        have hvs := HVS.out
        clear HVS
        have HTK := hid (show (numBytes n).take j = numBytes n from List.take_of_length_le (by rw [HLL.out]; omega))
        rw [HTK.out] at hvs
        have hnl : (acc ++ [UInt8.ofNat tag.toNat, 0, 0] ++ numBytes n).length ≤ N + 11 := by
          simp only [List.length_append, List.length_cons, List.length_nil, HLL.out]; omega
        have HNOW := hid (show acc ++ [UInt8.ofNat tag.toNat, 0, 0] ++ numBytes n = acc ++ [UInt8.ofNat tag.toNat, 0, 0] ++ numBytes n from rfl)
        generalize hnow : acc ++ [UInt8.ofNat tag.toNat, 0, 0] ++ numBytes n = now at hvs hnl
        have HNW := hid hnow
        clear hnow HNOW
        obtain ⟨a1, c1, hw1, hwf1, hbox⟩ := hvs
        have b0 : wr.cell? ⟨wb, 0, none⟩ = some (.slice a1 now.length c1) := cell_of_heap hw1.heap 0
        have b2 : wr.cell? ⟨w.heap.size, 2, none⟩ = some (.slice ab b.length cb) := cell_of_heap hbox 2
        have hz : wr.frozen? ⟨wb, 0, none⟩ = false := frozen_of_row wr wb 0 _ _ hw1.heap
        have hwbl := lt_of_heap hw1.heap
        have hbxl := lt_of_heap hbox
        have hw1 := hid hw1
        have hwf1 := hid hwf1
        have hbox := hid hbox
        have hbw : base ≤ wr.heap.size := by have := hwf1.out.fr.size; omega
        have hbrow := hid (HB.out.fr hwf1.out.fr (fun _ _ h => h)).row
        go_upto_region 7 with (fail)
        go_cut [] (fun wz => VS w wb base a c acc #[.int .i64 tag, .int .u64 (n : Int), .slice ab b.length cb, .slice al l.length cl] wz (now ++ b))
        case first =>
          go_region_law ((refine step_append (v := .slice a1 now.length c1) (S := fun k => k = wb ∨ mine (.slice a acc.length c) k) rfl rfl etB rfl (Own.fr hw1.out.own (by repeat (first | exact Fr.refl _ _ | refine Fr.drew ?_ | refine Fr.alloc ?_ _)) (fun _ _ h => h)) rfl (hbrow.out.fr (S' := fun _ => False) (by repeat (first | exact Fr.refl _ _ | refine Fr.drew ?_ | refine Fr.alloc ?_ _)) (fun _ _ h => h.elim)) (bcells_one b) (by omega) (by simp; omega) ?_; intro a2 c2 w2 ho2 hf2 hm2; have hc2 : w2.cell? ⟨wb, 0, none⟩ = some (.slice a1 now.length c1) := (by rw [hf2.cell (p := ⟨wb, 0, none⟩) (by simp; omega) hw1.out.apart]; go_simp); have hz2 : w2.frozen? ⟨wb, 0, none⟩ = false := (by rw [hf2.frozen (p := ⟨wb, 0, none⟩) (by simp; omega) hw1.out.apart]; go_simp)))
          all_goals
            go_wp2_with fail
            go_meet
            exact VS.step hw1.out hwf1.out hbox.out (by repeat (first | exact Fr.refl _ _ | refine Fr.drew ?_ | refine Fr.alloc ?_ _)) (by simp) (by rw [bcells_append]) (by omega) ho2 hf2 hm2
        case rest =>
          clear b0 b2 hz hw1 hwf1 hbox hbrow hbw hwbl hbxl
          have hnl2 : (now ++ b).length ≤ N + 65546 := by rw [List.length_append]; omega
          have HNW2 := hid (show acc ++ [UInt8.ofNat tag.toNat, 0, 0] ++ numBytes n ++ b = now ++ b by rw [HNW.out])
          generalize now ++ b = now2 at hcut hnl2 HNW2
          obtain ⟨a1, c1, hw1, hwf1, hbox⟩ := hcut
          have b3 : wc.cell? ⟨w.heap.size, 3, none⟩ = some (.slice al l.length cl) := cell_of_heap hbox 3
          have hw1 := hid hw1
          have hwf1 := hid hwf1
          clear hbox
          go_wp2
          clear b3
          go_loopw [67] (fun i wl => ∃ k a2 c2, k ≤ l.length ∧ i = .int .i64 ((k : Nat) : Int) ∧ WS wl wb base a2 c2 (now2 ++ encs (l.take k)) ∧ WF w wb (.slice a acc.length c) wl (.slice a2 (now2 ++ encs (l.take k)).length c2)) (fun i _ => l.length - (intOf i).toNat)
          case atStart => exact ⟨0, a1, c1, by omega, rfl, by rw [List.take_zero, encs, List.append_nil]; exact hw1.out, by rw [List.take_zero, encs, List.append_nil]; exact hwf1.out⟩
          case round =>
            obtain ⟨i, a2, c2, hil, rfl, hw2, hwf2⟩ := hrel
            by_cases hlt : i < l.length
            · have HW2 := hid hw2
              have HWF2 := hid hwf2
              have HSN := hid (show now2 ++ encs (l.take (i + 1)) = now2 ++ encs (l.take i) ++ enc l[i] by rw [encs_snoc hlt, List.append_assoc])
              have hnl3 : (now2 ++ encs (l.take i)).length ≤ N + 65546 + 65535 := by
                have h1 := encs_append (l.take i) (l.drop i)
                rw [List.take_append_drop] at h1
                rw [h1] at he65
                simp only [List.length_append] at he65 ⊢
                omega
              clear hw2 hwf2
              rcases H4.out with h0 | ⟨blk, off, ha, hblk, hSb, hcells⟩
              · omega
              subst ha
              obtain ⟨ec, hec, hk4⟩ := HC.out.get (i := i) (v := l[i]) (List.getElem?_eq_getElem hlt)
              have HEC := hid hec
              have hcw : ∀ j x, ec[j]? = some x → wr.cell? ⟨blk, off + i * 4 + j, none⟩ = some x := fun j x hx => by
                rw [HWF2.out.fr.cell (p := ⟨blk, off + i * 4 + j, none⟩) hblk hSb, Nat.add_assoc]
                exact hcells _ _ (hk4 j x hx)
              have HTV := hid (show TVv (fun k => k = wb ∨ mine (.slice a2 (now2 ++ encs (l.take i)).length c2) k) wr l[i] (.agg ec.toArray) from by
                obtain ⟨_, vb, vl, ks', rfl, _⟩ := hec.cells
                exact ⟨_, _, _, _, rfl, hec.shift HWF2.out.fr (fun _ _ h => h) (fun k hk hs => hs.imp id (fun hm => (HWF2.out.new k hm).resolve_right (by omega)))⟩)
              obtain ⟨hen, evb, evl, eks, rfl, heb, her, _⟩ := hec.cells
              obtain ⟨ea, ecap, rfl, _⟩ := heb
              obtain ⟨_, ea', ecap', rfl, _⟩ := her
              have k0 := hcw 0 _ rfl
              have k1 := hcw 1 _ rfl
              have k2 := hcw 2 _ rfl
              have k3 := hcw 3 _ rfl
              rw [Nat.add_zero] at k0
              have hdl : decide ((i : Int) < (l.length : Int)) = true := by simp; omega
              have hbw : base ≤ wr.heap.size := by have := HWF2.out.fr.size; omega
              have HI := hid (HIN.out i hlt)
              clear hcw hcells hk4 HEC hec
              generalize now2 ++ encs (l.take i) = now3 at HW2 HWF2 HSN hnl3 HTV
              go_wp2_with (go_at_call 45; refine (IH.out (inn_pos HRI.out (by omega)) l[i] _ _ a2 c2 now3 HI.out (HW2.out.fr ((Fr.refl (fun _ => False) wr).alloc _)) (by simp; omega) (by omega) (HTV.out.fr ((Fr.refl (fun _ => False) wr).alloc _) (fun _ _ h => h.elim))).mono ?_; rintro e w3 ⟨rfl, a3, c3, hw3, hwf3⟩)
              have hrel1 : WS w3 wb base a3 c3 (now2 ++ encs (l.take (i + 1))) := by rw [HSN.out]; exact hw3
              have hrel2 : WF w wb (.slice a acc.length c) w3 (.slice a3 (now2 ++ encs (l.take (i + 1))).length c3) := by rw [HSN.out]; exact HWF2.out.trans ((WF.of_fr ((Fr.refl (fun _ => False) wr).alloc _)).trans hwf3)
              go_roundw
              case rel => first | exact ⟨i + 1, a3, c3, by omega, by go_num, hrel1, hrel2⟩ | ((repeat apply Exists.intro); refine ⟨?_, rfl⟩; exact ⟨i + 1, a3, c3, by omega, by go_num, hrel1, hrel2⟩)
              case measure => simp [intOf]; omega
            · obtain rfl : i = l.length := by omega
              have HE := hid (show now2 ++ encs (l.take l.length) = acc ++ ([UInt8.ofNat tag.toNat, 0, 0] ++ (numBytes n ++ b ++ encs l)) by
                rw [List.take_length, ← HNW2.out]; simp only [List.append_assoc])
              rw [HE.out] at hw2 hwf2
              have HB2 := hid (show (TV.mk tag n b l).body = numBytes n ++ b ++ encs l from rfl)
              generalize hbody : numBytes n ++ b ++ encs l = body at hw2 hwf2 HB2
              have hbl2 : body.length ≤ 65535 := by
                obtain ⟨q, hq⟩ := Option.isSome_iff_exists.1 HRI.out
                have h1 := inn_length _ _ _ hq
                have h2 := inn_le hq
                rw [HB2.out] at h1
                omega
              have hlen3 : (acc ++ ([UInt8.ofNat tag.toNat, 0, 0] ++ body)).length = acc.length + 3 + body.length := by simp; omega
              obtain ⟨g, rfl, hgw, hgs, hgf⟩ := hw2.some (by omega)
              have c0 : wr.cell? ⟨wb, 0, none⟩ = some (.slice (some ⟨g, 0, none⟩) (acc.length + 3 + body.length) c2) := by rw [← hlen3]; exact cell_of_heap hw2.heap 0
              have c1' := (Own.cellAt hw2.own (i := acc.length + 1) (by omega)).2
              have c2' := (Own.cellAt hw2.own (i := acc.length + 2) (by omega)).2
              rw [show (bcells (acc ++ ([UInt8.ofNat tag.toNat, 0, 0] ++ body)))[acc.length + 1]? = some (.int .u8 0) by simp [bcells, bcell]] at c1'
              rw [show (bcells (acc ++ ([UInt8.ofNat tag.toNat, 0, 0] ++ body)))[acc.length + 2]? = some (.int .u8 0) by simp [bcells, bcell]] at c2'
              have z1 : wr.frozen? ⟨g, acc.length + 1, none⟩ = false := Own.frozen hw2.own (by omega) _
              have z2 : wr.frozen? ⟨g, acc.length + 2, none⟩ = false := Own.frozen hw2.own (by omega) _
              have HW2 := hid hw2
              have HWF2 := hid hwf2
              have HL3 := hid hlen3
              have HBD := hid hbody
              clear hw2 hwf2 hlen3 hbody
              generalize hbn : body.length = B at *
              have HBN := hid hbn
              clear hbn
              go_wp2
              rw [show ((acc.length : Int) + 3 + (B : Int) - (acc.length : Int) - 3) = (B : Int) by omega]
              have q1 : IntKind.i64.wrap ((acc.length : Int) + 1) = (acc.length : Int) + 1 := IntWalk.i64_in _ (by omega)
              have q2 : IntKind.i64.wrap ((acc.length : Int) + 2) = (acc.length : Int) + 2 := IntWalk.i64_in _ (by omega)
              have q3 : (0 : Int) ≤ (acc.length : Int) + 1 := by omega
              have q4 : (0 : Int) ≤ (acc.length : Int) + 2 := by omega
              have q5 : ((acc.length : Int) + 1).toNat = acc.length + 1 := by omega
              have q6 : ((acc.length : Int) + 2).toNat = acc.length + 2 := by omega
              have q7 : (acc.length : Int) + 1 < (acc.length : Int) + 3 + (B : Int) := by omega
              have q8 : (acc.length : Int) + 2 < (acc.length : Int) + 3 + (B : Int) := by omega
              have q9 : (0 : Int) ≤ (B : Int) := by omega
              have hgw' : ¬ wb = g := fun e => hgw e.symm
              go_region_held3 (fun w' => w'.cell? ⟨wb, 0, none⟩ = some (.slice (some ⟨g, 0, none⟩) (acc.length + 3 + B) c2)) (go_keep) (fail)
              go_end0
              have hx : Value.int .u8 (IntKind.u8.wrap ((B : Int) / 256)) = bcell (UInt8.ofNat (B / 256)) := by
                rw [bcell, UInt8.toNat_ofNat']; simp [IntKind.wrap, IntKind.signed, IntKind.bits]
              have hy : Value.int .u8 (IntKind.u8.wrap (B : Int)) = bcell (UInt8.ofNat (B % 256)) := by
                rw [bcell, UInt8.toNat_ofNat']; simp [IntKind.wrap, IntKind.signed, IntKind.bits]
              rw [hx, hy, enc]
              have hB3 := HBD.out
              rw [hB3, HBN.out]
              have hP := WS.patch HW2.out HWF2.out hgw (UInt8.ofNat (B / 256)) (UInt8.ofNat (B % 256))
              exact ⟨rfl, _, _, hP.1.fr (Fr.refl _ _).drew, hP.2.trans (WF.of_fr (Fr.refl _ _).drew)⟩
end Go.Proofs.Ytpomfegcifpfkaa
/- tlv's Right and Put. -/
namespace Go.Proofs.Ytpomfegcifpfkaa
open Go Go.RowKit
theorem inner_ok {S : Nat → Prop} : ∀ (d : Nat), d ≤ 100 → ∀ (v : TV) (x : Value) (w : World), TVv S w v x → Calls Try.prog 56 #[x, .int .i64 (d : Int)] w (RetI w (innI d v))
  | 0, hd, v, x, w, hv => inner_step 0 hd v x w hv (fun _ _ _ h => absurd rfl h)
  | d + 1, hd, v, x, w, hv => inner_step (d + 1) hd v x w hv (fun v x w _ hv => by
      rw [show (((d + 1 : Nat) : Int) - 1) = (d : Int) by omega]
      exact inner_ok d (by omega) v x w hv)
/-- How many bytes may stand ahead of a value of that depth. -/
def vbound (d : Nat) : Nat := 2000000 - d * 200000
theorem vb_step {d k : Nat} (hd : d + 1 ≤ 8) (h : k ≤ vbound (d + 1) + 65546 + 65535) : k ≤ vbound d := by
  unfold vbound at *; omega
theorem vb_le (d : Nat) : vbound d ≤ 1099511627776 := by unfold vbound; omega
/-- A value's bytes behind those of a writer. -/
theorem value_ok {base : Nat} (d : Nat) (hd : d ≤ 8) : ∀ (v : TV) (x : Value) (w : World) (wb : Nat) (a : Option Addr) (c : Nat) (acc : List UInt8), (inn d v).isSome = true → WS w wb base a c acc → base ≤ w.heap.size → acc.length ≤ vbound d →
    TVv (fun k => k = wb ∨ mine (.slice a acc.length c) k) w v x → Calls Try.prog 45 #[.pointer (some ⟨wb, 0, none⟩), x] w (RetW w wb base a c acc (acc ++ enc v)) := by
  induction d with
  | zero =>
    intro v x w wb a c acc hr hw hb hl hv
    obtain ⟨tag, n, b, l⟩ := v
    exact value_step 0 tag n b l x w wb a c acc hr hw hb _ (vb_le 0) hl hv (fun h => absurd rfl h)
  | succ d ih =>
    intro v x w wb a c acc hr hw hb hl hv
    obtain ⟨tag, n, b, l⟩ := v
    exact value_step (d + 1) tag n b l x w wb a c acc hr hw hb _ (vb_le _) hl hv (fun _ v x w a c acc hr hw hb hl hv => ih (by omega) v x w wb a c acc hr hw hb (vb_step hd hl) hv)
set_option maxRecDepth 100000 in
theorem right_ok {S : Nat → Prop} (v : TV) (x : Value) (w : World) (hv : TVv S w v x) : Calls Try.prog 44 #[x] w fun e w' => e = .returned (.bool (inn 8 v).isSome) ∧ Below w.heap.size w w' := by
  have HV := hid hv
  obtain ⟨c0, c1, c2, c3, rfl, h⟩ := hv
  cases hi : inn 8 v with
  | none =>
    have HI := hid (show ∀ w', TVv S w' v (.agg #[c0, c1, c2, c3]) → Calls Try.prog 56 #[.agg #[c0, c1, c2, c3], .int .i64 8] w' (RetI w' (-1)) from fun w' h => by
      have hh := inner_ok 8 (by omega) v _ w' h
      rwa [show innI 8 v = -1 by rw [innI, hi]] at hh)
    clear hi
    go_enter Try.func44, Try.ntmps44
    go_wp2_with (go_at_call 56; refine (HI.out _ (HV.out.fr ((Fr.refl (fun _ => False) w).alloc _) (fun _ _ h => h.elim))).mono ?_; rintro e w1 ⟨rfl, hb1⟩)
    go_ret
    exact ⟨rfl, ((Below.refl _ _).alloc (Nat.le_refl _) _).trans (hb1.mono (by simp))⟩
  | some k =>
    have HI := hid (show ∀ w', TVv S w' v (.agg #[c0, c1, c2, c3]) → Calls Try.prog 56 #[.agg #[c0, c1, c2, c3], .int .i64 8] w' (RetI w' (k : Int)) from fun w' h => by
      have hh := inner_ok 8 (by omega) v _ w' h
      rwa [show innI 8 v = (k : Int) by rw [innI, hi]] at hh)
    clear hi
    have hk0 : (0 : Int) ≤ (k : Int) := by omega
    go_enter Try.func44, Try.ntmps44
    go_wp2_with (go_at_call 56; refine (HI.out _ (HV.out.fr ((Fr.refl (fun _ => False) w).alloc _) (fun _ _ h => h.elim))).mono ?_; rintro e w1 ⟨rfl, hb1⟩)
    go_ret
    exact ⟨by simp, ((Below.refl _ _).alloc (Nat.le_refl _) _).trans (hb1.mono (by simp))⟩
/-- A block that is new holds nothing of a value that was there. -/
theorem TVr_new {S : Nat → Prop} {w : World} {v : TV} {x : Value} (h : TVv S w v x) (o : Obj) : TVv (fun k => k = w.heap.size ∨ mine (.slice none ([] : List UInt8).length 0) k) (w.alloc o) v x := by
  obtain ⟨c0, c1, c2, c3, rfl, h⟩ := h
  exact ⟨_, _, _, _, rfl, h.shift ((Fr.refl (fun _ => False) w).alloc o) (fun _ _ h => h.elim) (fun k hk hs => hs.elim (fun e => absurd hk (by omega)) (fun ⟨_, _, _, e, _⟩ => nomatch e))⟩
/-- What Put answers: bytes that were made, and a fault. -/
def RetP (w : World) (r : List UInt8 × Int) (e : Ending) (w' : World) : Prop :=
  ∃ v', e = .returned (.tuple #[v', .int .i64 r.2]) ∧ OwnB w' w.heap.size v' r.1 ∧ Below w.heap.size w w'
set_option maxRecDepth 100000 in
set_option maxHeartbeats 1000000 in
theorem put_ok {S : Nat → Prop} (v : TV) (x : Value) (w : World) (hv : TVv S w v x) : Calls Try.prog 20 #[x] w (RetP w (putF v)) := by
  have HV := hid hv
  obtain ⟨c0, c1, c2, c3, rfl, h⟩ := hv
  cases hi : (inn 8 v).isSome with
  | false =>
    have HR := hid (show ∀ w', TVv S w' v (.agg #[c0, c1, c2, c3]) → Calls Try.prog 44 #[.agg #[c0, c1, c2, c3]] w' fun e w'' => e = .returned (.bool false) ∧ Below w'.heap.size w' w'' from fun w' h => by
      have hh := right_ok v _ w' h
      rwa [hi] at hh)
    rw [show putF v = ([], 1) by rw [putF, hi]; rfl]
    clear hi
    go_enter Try.func20, Try.ntmps20
    go_wp2_with (go_at_call 44; refine (HR.out _ (HV.out.fr ((Fr.refl (fun _ => False) w).alloc _) (fun _ _ h => h.elim))).mono ?_; rintro e w1 ⟨rfl, hb1⟩)
    go_ret2
    exact ⟨_, rfl, Own.nil _ _ _ _, ((Below.refl _ _).alloc (Nat.le_refl _) _).trans (hb1.mono (by simp))⟩
  | true =>
    have HR := hid (show ∀ w', TVv S w' v (.agg #[c0, c1, c2, c3]) → Calls Try.prog 44 #[.agg #[c0, c1, c2, c3]] w' fun e w'' => e = .returned (.bool true) ∧ Below w'.heap.size w' w'' from fun w' h => by
      have hh := right_ok v _ w' h
      rwa [hi] at hh)
    rw [show putF v = (enc v, 0) by rw [putF, hi]; rfl]
    have HI := hid hi
    clear hi
    obtain ⟨_, evb, evl, eks, hc, heb, her, _⟩ := h.cells
    simp only [List.cons.injEq, and_true] at hc
    obtain ⟨rfl, rfl, rfl, rfl⟩ := hc
    obtain ⟨ea, ecap, rfl, _⟩ := heb
    obtain ⟨_, ea', ecap', rfl, _⟩ := her
    go_enter Try.func20, Try.ntmps20
    go_wp2_with (go_at_call 44; refine (HR.out _ (HV.out.fr ((Fr.refl (fun _ => False) w).alloc _) (fun _ _ h => h.elim))).mono ?_; rintro e w1 ⟨rfl, hb1⟩; obtain ⟨hc1, hf1⟩ := wold hb1; have hsz1 : w.heap.size < w1.heap.size := (by have := hb1.size; simp at this; omega))
    have HV1 := hid ((HV.out.fr ((Fr.refl (fun _ => False) w).alloc (.cells #[.int .i64 v.tag, .int .u64 (v.num : Int), .slice ea v.byt.length ecap, .slice ea' v.lst.length ecap'] 74)) (fun _ _ h => h.elim)).fr (Fr.of_below (S := fun _ => False) hb1) (fun _ _ h => h.elim))
    have hval := value_ok (base := w1.heap.size + 1) 8 (by omega) v (.agg #[.int .i64 v.tag, .int .u64 (v.num : Int), .slice ea v.byt.length ecap, .slice ea' v.lst.length ecap']) (w1.alloc (.cells #[.slice none 0 0] 110)) w1.heap.size none 0 [] HI.out
      ⟨heap_alloc_new w1 _, Own.nil _ _ _ _, fun ⟨_, _, _, h, _⟩ => nomatch h⟩ (by simp) (Nat.zero_le _) (TVr_new HV1.out _)
    refine hval.mono ?_
    rintro e w2 ⟨rfl, a2, c2, hws, hwf⟩
    rw [List.nil_append] at hws hwf
    have d0 : w2.cell? ⟨w1.heap.size, 0, none⟩ = some (.slice a2 (enc v).length c2) := cell_of_heap hws.heap 0
    have HWS := hid hws
    have HWF := hid hwf
    clear hws hwf
    go_wp2
    go_ret2
    have hB1 : Below w.heap.size w (w1.alloc (.cells #[.slice none 0 0] 110)) := (((Below.refl _ _).alloc (Nat.le_refl _) _).trans (hb1.mono (by simp))).alloc (by omega) _
    refine ⟨_, rfl, Own.mono HWS.out.own (by omega), Below.fr hB1 HWF.out.fr (fun i hi hk => hk.elim (fun e => by omega) (fun ⟨_, _, _, e, _⟩ => nomatch e))⟩
end Go.Proofs.Ytpomfegcifpfkaa
