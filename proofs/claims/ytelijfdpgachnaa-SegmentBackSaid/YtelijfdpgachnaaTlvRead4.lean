/- tlv's read of a list: the plain part, and its loop's state. -/
import Derived.Test.YtelijfdpgachnaaTlvRead2
namespace Go.Proofs.Ytelijfdpgachnaa
open Go Go.RowKit
theorem splitF_in {b : List UInt8} {t : UInt8} {i r : List UInt8} (h : splitF b = some (t, i, r)) : i.length ≤ 65535 := by
  unfold splitF at h
  split at h
  · rename_i t h1 l r'
    split at h
    · simp only [Option.some.injEq, Prod.mk.injEq] at h
      obtain ⟨_, rfl, rfl⟩ := h
      have := h1.toNat_lt
      have := l.toNat_lt
      simp; omega
    · cases h
  · cases h
theorem readWith_lt {sub : List UInt8 → Option (List TV)} {b : List UInt8} {v : TV} {r : List UInt8} (h : readWith sub b = some (v, r)) : r.length + 3 ≤ b.length := by
  unfold readWith at h
  cases hs : splitF b with
  | none => rw [hs] at h; cases h
  | some x =>
    obtain ⟨t, i, r'⟩ := x
    have hl := (splitF_lt hs).2
    rw [hs] at h
    simp only [Option.bind_some] at h
    split at h
    · split at h
      · simp only [Option.some.injEq, Prod.mk.injEq] at h; rw [← h.2]; exact hl
      · cases h
    · split at h
      · simp only [Option.some.injEq, Prod.mk.injEq] at h; rw [← h.2]; exact hl
      · split at h
        · cases hsub : sub i with
          | none => rw [hsub] at h; cases h
          | some l =>
            rw [hsub] at h
            simp only [Option.map_some, Option.some.injEq, Prod.mk.injEq] at h
            rw [← h.2]; exact hl
        · cases h
theorem readF_lt {d : Nat} {b : List UInt8} {v : TV} {r : List UInt8} (h : readF d b = some (v, r)) : r.length + 3 ≤ b.length := by
  cases d with
  | zero => rw [readF] at h; exact readWith_lt h
  | succ d => rw [readF] at h; exact readWith_lt h
theorem readsW_fuel {rd : List UInt8 → Option (TV × List UInt8)} (hrd : ∀ b v r, rd b = some (v, r) → r.length < b.length) : ∀ (f g : Nat) (b : List UInt8), b.length ≤ f → b.length ≤ g → readsW rd f b = readsW rd g b
  | f, g, [], _, _ => by
    cases f <;> cases g <;> simp [readsW]
  | 0, _, _ :: _, h, _ => by simp at h
  | _ + 1, 0, _ :: _, _, h => by simp at h
  | f + 1, g + 1, c :: b, hf, hg => by
    rw [readsW, readsW]
    cases h : rd (c :: b) with
    | none => rfl
    | some x =>
      obtain ⟨v, r⟩ := x
      have := hrd _ _ _ h
      simp only [List.length_cons] at this hf hg
      simp only [Option.bind_some]
      rw [readsW_fuel hrd f g r (by omega) (by omega)]
/-- All values that bytes are. -/
def readsF (d : Nat) (b : List UInt8) : Option (List TV) := readsW (readF d) b.length b
theorem readsF_nil (d : Nat) : readsF d [] = some [] := rfl
theorem readsF_step (d : Nat) (b : List UInt8) (h : b ≠ []) : readsF d b = (readF d b).bind fun x => (readsF d x.2).map fun l => x.1 :: l := by
  cases b with
  | nil => exact absurd rfl h
  | cons c b =>
    rw [readsF, List.length_cons, readsW]
    cases hh : readF d (c :: b) with
    | none => rfl
    | some x =>
      obtain ⟨v, r⟩ := x
      have := readF_lt hh
      simp only [List.length_cons] at this
      simp only [Option.bind_some, readsF]
      rw [readsW_fuel (fun b v r h => by have := readF_lt h; omega) b.length r.length r (by omega) (Nat.le_refl _)]
theorem TVch.shift {S S0 S' : Nat → Prop} {w w' : World} {l : List TV} {cs : List Value} (h : TVch S w l cs) (hf : Fr S0 w w') (h0 : ∀ k, k < w.heap.size → S0 k → S k) (h1 : ∀ k, k < w.heap.size → S' k → S k) : TVch S' w' l cs := by
  have t1 : TVch (fun k => S k ∨ w.heap.size ≤ k) w l cs := TVch.mono (fun k hk hs => hs.elim id (fun hl => absurd hk (by omega))) l cs h
  have t2 := TVch.fr hf (fun k hk hs => .inl (h0 k hk hs)) l cs t1
  exact TVch.mono (fun k _ hs => by
    by_cases hk : k < w.heap.size
    · exact .inl (h1 k hk hs)
    · exact .inr (by omega)) l cs t2
/-- A row at a fresh block. -/
theorem row_atk {w : World} {g n size : Nat} {cs : Array Value} {e : TypeId} {fz : Nat × Nat} (hg : w.heap[g]? = some (.cells cs e fz)) (hn : cs.size = n * size) (hl : n ≤ 140737488355328) : Row (fun _ => False) w (.slice (some ⟨g, 0, none⟩) n n) n size cs.toList := by
  refine ⟨by simp [hn], _, n, rfl, ⟨Nat.le_refl _, hl, by unfold maxLen; omega⟩, (fun h => nomatch h), .inr ⟨g, 0, rfl, lt_of_heap hg, id, fun j x hx => ?_⟩⟩
  rw [cell_of_heap hg, Nat.zero_add, ← Array.getElem?_toList]
  exact hx
/-- The state of the list's loop. -/
structure LS (S : Nat → Prop) (w wr : World) (l : List TV) (al : Option Addr) (cl : Nat) (ks : List Value) : Prop where
  box : wr.heap[w.heap.size]? = some (.cells #[.int .i64 3, .int .u64 0, .slice none 0 0, .slice al l.length cl] 112 (0, 0))
  own : Own wr (w.heap.size + 1) 112 4 (.slice al l.length cl) l.length ks
  ch : TVch (fun k => S k ∨ k = w.heap.size ∨ mine (.slice al l.length cl) k) wr l ks
  below : Below w.heap.size w wr
theorem LS.step {S SV : Nat → Prop} {w wr w4 w5 : World} {l : List TV} {v : TV} {al a' : Option Addr} {cl c' n' : Nat} {ks c : List Value} (h : LS S w wr l al cl ks) (hf : Fr (fun _ => False) wr w4) (hv : TVr SV w4 v c)
    (hSV : ∀ k, k < w4.heap.size → (S k ∨ k = w.heap.size ∨ mine (.slice al l.length cl) k) → SV k)
    (ho : Own w5 (w.heap.size + 1) 112 4 (.slice a' n' c') n' (ks ++ c)) (hn' : n' = (l ++ [v]).length) (hf5 : Fr (mine (.slice al l.length cl)) w4 w5)
    (hm : ∀ k, mine (.slice a' n' c') k → mine (.slice al l.length cl) k ∨ w4.heap.size ≤ k) :
    LS S w (w5.setCell ⟨w.heap.size, 3, none⟩ (.slice a' n' c')) (l ++ [v]) a' c' (ks ++ c) ∧ Fr (fun k => w.heap.size ≤ k) wr (w5.setCell ⟨w.heap.size, 3, none⟩ (.slice a' n' c')) := by
  subst hn'
  have hB : ¬ mine (.slice al l.length cl) w.heap.size := fun hk => by have := (Own.mine_ge h.own hk).1; omega
  have hB' : ¬ mine (.slice a' (l ++ [v]).length c') w.heap.size := fun hk => by have := (Own.mine_ge ho hk).1; omega
  have hF6 : Fr (fun k => k = w.heap.size ∨ mine (.slice al l.length cl) k) w4 (w5.setCell ⟨w.heap.size, 3, none⟩ (.slice a' (l ++ [v]).length c')) :=
    (hf5.mono (fun _ _ h => .inr h)).setCell (p := ⟨w.heap.size, 3, none⟩) (fun _ => .inl rfl) _
  have hnew : ∀ k, k < w4.heap.size → (S k ∨ k = w.heap.size ∨ mine (.slice a' (l ++ [v]).length c') k) → (S k ∨ k = w.heap.size ∨ mine (.slice al l.length cl) k) :=
    fun k hk hs => hs.imp id (fun hs => hs.imp id (fun hs => (hm k hs).resolve_right (by omega)))
  refine ⟨⟨?_, ?_, ?_, ?_⟩, (hf.mono (fun _ _ h => h.elim)).trans (hF6.mono (fun k _ hs => ?_))⟩
  · have := heap_store (hf5.heap (hf.heap h.box id) hB) 3 (.slice a' (l ++ [v]).length c')
    exact this
  · exact Own.fr ho ((Fr.refl (· = w.heap.size) w5).setCell (p := ⟨w.heap.size, 3, none⟩) (fun _ => rfl) _) (fun k hk e => hB' (e ▸ hk))
  · refine TVch.snoc (TVr.shift hv hF6 (fun k hk hs => hSV k hk (.inr hs)) (fun k hk hs => hSV k hk (hnew k hk hs))) ?_
    have hc4 : TVch (fun k => S k ∨ k = w.heap.size ∨ mine (.slice al l.length cl) k) w4 l ks := TVch.fr hf (fun _ _ h => h.elim) l ks h.ch
    exact TVch.shift hc4 hF6 (fun k hk hs => .inr hs) hnew
  · refine Below.fr h.below ((hf.mono (S' := fun k => k = w.heap.size ∨ mine (.slice al l.length cl) k) (fun _ _ h => h.elim)).trans hF6) (fun k hk hs => ?_)
    rcases hs with rfl | hs
    · omega
    · have := (Own.mine_ge h.own hs).1; omega
  · rcases hs with rfl | hs
    · exact Nat.le_refl _
    · have := (Own.mine_ge h.own hs).1; omega
end Go.Proofs.Ytelijfdpgachnaa
/- tlv's read of a list. -/
namespace Go.Proofs.Ytelijfdpgachnaa
open Go Go.RowKit
/-- How long a slice is. -/
def slen (v : Value) : Nat := match v with | .slice _ n _ => n | _ => 0
set_option maxRecDepth 100000 in
set_option maxHeartbeats 4000000 in
theorem read_list {S : Nat → Prop} {w0 : World} (hSB : SB S w0) (d : Nat) (hd : d < 100) (b : Value) (xs : List UInt8) (w : World) (hw0 : w0 = w) (hb : Bs S w b xs) (t : UInt8) (i r : List UInt8) (hsp : splitF xs = some (t, i, r)) (ht : t.toNat = 3)
    (ih : ∀ (S : Nat → Prop) (b : Value) (xs : List UInt8) (w : World), SB S w → Bs S w b xs → Calls Try.prog 115 #[b, .int .i64 (d : Int)] w (RetR S w (readF d xs))) :
    Calls Try.prog 115 #[b, .int .i64 ((d : Int) + 1)] w (RetR S w ((readsF d i).map fun l => (.mk 3 0 [] l, r))) := by
  subst hw0
  have HSB := hid hSB
  have HS := hid (show ∀ w', Bs (SN S w0) w' b xs → Calls Try.prog 141 #[b] w' (RetS (SN S w0) w' (some (t, i, r))) from fun w' h => hsp ▸ split_ok b xs w' h)
  have HB := hid hb
  have HIN := hid (splitF_in hsp)
  have IH := hid ih
  have ht' : (t.toNat : Int) = 3 := by omega
  clear hb hsp ht hSB ih
  have hd0 : decide ((0 : Int) < (d : Int) + 1) = true := by simp
  have hwd : IntKind.i64.wrap ((d : Int) + 1 - 1) = (d : Int) := by rw [show (d : Int) + 1 - 1 = (d : Int) from by omega]; exact IntWalk.i64_in _ (by omega)
  go_enter Try.func115, Try.ntmps115
  go_upto_block 0 with (go_at_call 141; refine (HS.out _ (HB.out.new ((Fr.refl (fun _ => False) w0).alloc _) (fun _ _ h => h.elim))).mono ?_; rintro e w1 ⟨hb1, ai, ci, ar, cr, rfl, hbi, hbr⟩; obtain ⟨hc1, hf1⟩ := wold hb1; have hsz1 : w0.heap.size < w1.heap.size := (by have := hb1.size; simp at this; omega))
  have hB : Below w0.heap.size w0 w1 := ((Below.refl _ _).alloc (Nat.le_refl _) _).trans (hb1.mono (by simp))
  have hx1 : w1.heap[w0.heap.size]? = some (.cells #[.int .i64 0, .int .u64 0, .slice none 0 0, .slice none 0 0] 112 (0, 0)) := by
    rw [hb1.block _ (by simp)]; exact heap_alloc_new w0 _
  have hxt := heap_store hx1 0 (.int .i64 3)
  have hFt := (Fr.refl (· = w0.heap.size) w1).set1 0 (.int .i64 3)
  generalize w1.setCell ⟨w0.heap.size, 0, none⟩ (.int .i64 3) = wt at *
  have hbt := hbi.fr hFt (fun k hk h => .inr (by omega))
  have hrt := hbr.fr hFt (fun k hk h => .inr (by omega))
  have hBt : Below w0.heap.size w0 wt := Below.fr hB hFt (fun i hi e => by omega)
  have HBT := hid hbt
  have HRT := hid hrt
  have HL0 := hid (show LS S w0 wt [] none 0 [] from ⟨hxt, Own.nil _ _ _ _, by rw [TVch], hBt⟩)
  have hszt : w0.heap.size < wt.heap.size := lt_of_heap hxt
  clear hrt hBt hxt hFt hx1 hB hc1 hf1 hb1 hbi hbr hbt
  go_wp2
  go_loopw [5, 8] (fun s5 s wr => ∃ (l : List TV) (ins : List UInt8) (ai' : Option Addr) (ci' : Nat) (al : Option Addr) (cl : Nat) (ks : List Value), s5 = .slice ar r.length cr ∧ s = .slice ai' ins.length ci' ∧ Bs (SN S w0) wr (.slice ai' ins.length ci') ins ∧ LS S w0 wr l al cl ks ∧
    readsF d i = (readsF d ins).map (l ++ ·) ∧ 3 * l.length + ins.length ≤ i.length ∧ Bs (SN S w0) wr (.slice ar r.length cr) r) (fun _ s _ => slen s)
  case atStart => exact ⟨[], i, ai, ci, none, 0, [], rfl, rfl, HBT.out, HL0.out, by simp, by simp, HRT.out⟩
  case round =>
    obtain ⟨l, ins, ai', ci', al, cl, ks, rfl, rfl, hbi, hL, hR, h3, hrr⟩ := hrel
    have hbxl := lt_of_heap hL.box
    have b0 : wr.cell? ⟨w0.heap.size, 0, none⟩ = some (.int .i64 3) := cell_of_heap hL.box 0
    have b1 : wr.cell? ⟨w0.heap.size, 1, none⟩ = some (.int .u64 0) := cell_of_heap hL.box 1
    have b2 : wr.cell? ⟨w0.heap.size, 2, none⟩ = some (.slice none 0 0) := cell_of_heap hL.box 2
    have b3 : wr.cell? ⟨w0.heap.size, 3, none⟩ = some (.slice al l.length cl) := cell_of_heap hL.box 3
    have z0 : wr.frozen? ⟨w0.heap.size, 0, none⟩ = false := frozen_of_row wr _ 0 _ _ hL.box
    have z1 : wr.frozen? ⟨w0.heap.size, 1, none⟩ = false := frozen_of_row wr _ 1 _ _ hL.box
    have z2 : wr.frozen? ⟨w0.heap.size, 2, none⟩ = false := frozen_of_row wr _ 2 _ _ hL.box
    have z3 : wr.frozen? ⟨w0.heap.size, 3, none⟩ = false := frozen_of_row wr _ 3 _ _ hL.box
    have HBI := hid hbi
    have HL := hid hL
    have HR := hid hR
    have HRR := hid hrr
    clear hbi hL hR hrr
    by_cases hn : ins = []
    · subst hn
      have hR2 : readsF d i = some l := by rw [HR.out, readsF_nil]; simp
      simp only [List.length_nil]
      go_wp2
      have hx3 := heap_store (heap_store (heap_store (heap_store HL.out.box 0 (.int .i64 3)) 1 (.int .u64 0)) 2 (.slice none 0 0)) 3 (.slice al l.length cl)
      have hF2 := ((((Fr.refl (· = w0.heap.size) wr).set1 0 (.int .i64 3)).set1 1 (.int .u64 0)).set1 2 (.slice none 0 0)).set1 3 (.slice al l.length cl)
      have hB2 := Below.fr HL.out.below hF2 (fun i hi e => by omega)
      rw [hR2, Option.map_some]
      refine bodyPost_ret (results_ctt rfl _ _ w0.heap.size _ _ _ _ rfl hx3 Try.underlying112 rfl (by kernel_rfl)) rfl (RetR.yes hB2 ⟨_, _, _, _, rfl, ?_⟩ (HRR.out.fr hF2 (fun k hk h => .inr (by omega))))
      rw [TVr]
      refine ⟨by omega, _, _, ks, rfl, Bs.nil _ _, ((Own.fr HL.out.own hF2 (fun k hk e => by have := (Own.mine_ge HL.out.own hk).1; omega)).row (fun k hk _ hs => by have := HSB.out k hs; omega)), ?_⟩
      exact TVch.mono (fun k _ hs => .inl hs) _ _ (TVch.fr hF2 (fun k _ e => .inr (.inl e)) _ _ HL.out.ch)
    · have hpos : (0 : Int) < (ins.length : Int) := by
        have := List.length_pos_iff.2 hn
        omega
      have hstep := readsF_step d ins hn
      have HSB2 := hid (show SB (fun k => SN S w0 k ∧ k < wr.heap.size + 1) (wr.alloc (.cells #[.int .i64 0, .int .u64 0, .slice none 0 0, .slice none 0 0] 112 (0, 0))) from fun k hk => by simpa using hk.2)
      have hIH := IH.out (fun k => SN S w0 k ∧ k < wr.heap.size + 1) _ ins _ HSB2.out ((HBI.out.fr ((Fr.refl (fun _ => False) wr).alloc _) (fun _ _ h => h.elim)).mono (fun k _ h => h.1))
      cases hrd : readF d ins with
      | none =>
        rw [hrd] at hIH hstep
        have hR2 : readsF d i = none := by rw [HR.out, hstep]; rfl
        have HC := hid hIH
        clear hIH hstep
        go_wp2_with (go_at_call 115; refine HC.out.mono ?_; rintro e w2 ⟨hb2, rfl⟩; obtain ⟨hc2, hf2⟩ := wold hb2; have hsz2 : wr.heap.size < w2.heap.size := (by have := hb2.size; simp at this; omega))
        rw [hR2, Option.map_none]
        have hbx : w2.heap[w0.heap.size]? = some (.cells #[.int .i64 3, .int .u64 0, .slice none 0 0, .slice al l.length cl] 112 (0, 0)) := by
          rw [hb2.block _ (by simp; omega), heap_alloc_old _ _ (by omega)]; exact HL.out.box
        have hFx := ((((Fr.refl (· = wr.heap.size) w2).set1 0 (.int .i64 0)).set1 1 (.int .u64 0)).set1 2 (.slice none 0 0)).set1 3 (.slice none 0 0)
        have hbx2 := hFx.heap hbx (by omega)
        have hBx : Below w0.heap.size w0 w2 := (HL.out.below.alloc (by omega) _).trans (hb2.mono (by simp; omega))
        have hBx2 := Below.fr hBx hFx (fun i hi e => by omega)
        generalize (((w2.setCell ⟨wr.heap.size, 0, none⟩ (.int .i64 0)).setCell ⟨wr.heap.size, 1, none⟩ (.int .u64 0)).setCell ⟨wr.heap.size, 2, none⟩ (.slice none 0 0)).setCell ⟨wr.heap.size, 3, none⟩ (.slice none 0 0) = w3 at *
        have hx3 := heap_store (heap_store (heap_store (heap_store hbx2 0 (.int .i64 0)) 1 (.int .u64 0)) 2 (.slice none 0 0)) 3 (.slice none 0 0)
        have hF2 := ((((Fr.refl (· = w0.heap.size) w3).set1 0 (.int .i64 0)).set1 1 (.int .u64 0)).set1 2 (.slice none 0 0)).set1 3 (.slice none 0 0)
        refine bodyPost_ret (results_ctt rfl _ _ w0.heap.size _ _ _ _ rfl hx3 Try.underlying112 rfl (by kernel_rfl)) rfl (RetR.no (Below.fr hBx2 hF2 (fun i hi e => by omega)))
      | some p =>
        obtain ⟨v, r'⟩ := p
        rw [hrd] at hIH hstep
        have HC := hid hIH
        have HST := hid hstep
        have hlt := readF_lt hrd
        clear hIH hstep
        go_upto_region 20 with (go_at_call 115; refine HC.out.mono ?_; rintro e w2 ⟨hb2, x, ar2, cr2, rfl, ⟨x0, x1, x2, x3, rfl, hv2⟩, hr2⟩; obtain ⟨hvn, vb, vl, kv, hce, hbv, hrv, _⟩ := hv2.cells; obtain ⟨ab, cb, rfl, _⟩ := hbv; obtain ⟨_, al2, cl2, rfl, _⟩ := hrv; simp only [List.cons.injEq, and_true] at hce; obtain ⟨rfl, rfl, rfl, rfl⟩ := hce; obtain ⟨hc2, hf2⟩ := wold hb2; have hsz2 : wr.heap.size < w2.heap.size := (by have := hb2.size; simp at this; omega))
        have hFX := ((((Fr.refl (· = wr.heap.size) w2).set1 0 (.int .i64 v.tag)).set1 1 (.int .u64 (v.num : Int))).set1 2 (.slice ab v.byt.length cb)).set1 3 (.slice al2 v.lst.length cl2)
        have hxX := heap_store (heap_store (heap_store (heap_store ((hb2.block _ (by simp)).trans (heap_alloc_new wr _)) 0 (.int .i64 v.tag)) 1 (.int .u64 (v.num : Int))) 2 (.slice ab v.byt.length cb)) 3 (.slice al2 v.lst.length cl2)
        have hF0 : Fr (fun _ => False) wr w2 := ((Fr.refl (fun _ => False) wr).alloc _).trans (Fr.of_below hb2)
        generalize (((w2.setCell ⟨wr.heap.size, 0, none⟩ (.int .i64 v.tag)).setCell ⟨wr.heap.size, 1, none⟩ (.int .u64 (v.num : Int))).setCell ⟨wr.heap.size, 2, none⟩ (.slice ab v.byt.length cb)).setCell ⟨wr.heap.size, 3, none⟩ (.slice al2 v.lst.length cl2) = w3 at *
        have hF3 : Fr (fun _ => False) wr w3 := hF0.trans' hFX (fun k hk e => by omega)
        have hsz3 : w2.heap.size ≤ w3.heap.size := hFX.size
        have hv3 : TVr (fun k => SN S w0 k ∧ k < wr.heap.size + 1) w3 v [.int .i64 v.tag, .int .u64 (v.num : Int), .slice ab v.byt.length cb, .slice al2 v.lst.length cl2] := TVr.fr hFX (fun k hk e => ⟨.inr (by omega), by omega⟩) _ _ hv2
        have hr3 : Bs (SN S w0) w3 (.slice ar2 r'.length cr2) r' := (hr2.fr hFX (fun k hk e => .inl ⟨.inr (by omega), by omega⟩)).mono (fun k hk hs => by
          by_cases hlt : k < wr.heap.size + 1
          · exact .inl ⟨hs, hlt⟩
          · exact .inr (by simp; omega))
        have hX0 := cell_of_heap hxX 0
        have hX1 := cell_of_heap hxX 1
        have hX2 := cell_of_heap hxX 2
        have hX3 := cell_of_heap hxX 3
        simp at hX0 hX1 hX2 hX3
        have b3' : w3.cell? ⟨w0.heap.size, 3, none⟩ = some (.slice al l.length cl) := (hF3.cell (p := ⟨w0.heap.size, 3, none⟩) (by simp; omega) id).trans b3
        have z3' : w3.frozen? ⟨w0.heap.size, 3, none⟩ = false := (hF3.frozen (p := ⟨w0.heap.size, 3, none⟩) (by simp; omega) id).trans z3
        have hrr3 := HRR.out.fr hF3 (fun _ _ h => h.elim)
        have HV3 := hid hv3
        have HR3 := hid hr3
        have HF3 := hid hF3
        have HRR3 := hid hrr3
        have hbase : w0.heap.size + 1 ≤ w3.heap.size := by omega
        have hll : (l.length + 1) * 64 ≤ 140737488355328 := by have := HIN.out; have := h3; omega
        clear hv3 hr3 hF3 hrr3 hF0 hFX hb2 hc2 hf2 hv2 hr2 b0 b1 b2 b3 z0 z1 z2 z3 hxX
        have HNM : ¬ mine (.slice al l.length cl) w0.heap.size := fun hk => by have := (Own.mine_ge HL.out.own hk).1; omega
        go_wp2_with (at_builtin; refine wpl_append (v := .slice al l.length cl) (S := fun _ => False) rfl rfl et_cloneV rfl (Own.fr (Own.fr HL.out.own HF3.out (fun _ _ h => h)) (by repeat (first | exact Fr.refl _ _ | refine Fr.drew ?_ | refine Fr.alloc ?_ _)) (fun _ _ h => h)) rfl (row_atk (heap_alloc_new w3 _) rfl (by omega)) (by simp [Value.oneCell']) (by omega) (by simp; omega) ?_; intro v5 w5 ho5 hf5 hm5; obtain ⟨a5, c5, rfl, _⟩ := ho5.len; have hc5 : w5.cell? ⟨w0.heap.size, 3, none⟩ = some (.slice al l.length cl) := (hf5.cell (p := ⟨w0.heap.size, 3, none⟩) (by simp; omega) HNM).trans ((((Fr.refl (fun _ => False) w3).alloc _).cell (p := ⟨w0.heap.size, 3, none⟩) (by simp; omega) id).trans b3'); have hz5 : w5.frozen? ⟨w0.heap.size, 3, none⟩ = false := (hf5.frozen (p := ⟨w0.heap.size, 3, none⟩) (by simp; omega) HNM).trans ((((Fr.refl (fun _ => False) w3).alloc _).frozen (p := ⟨w0.heap.size, 3, none⟩) (by simp; omega) id).trans z3'))
        go_roundw
        case rel =>
          have hst := LS.step (v := v) HL.out (HF3.out.alloc _) (TVr.fr ((Fr.refl (fun _ => False) w3).alloc _) (fun _ _ h => h.elim) _ _ HV3.out) (fun k hk hs => by
            rcases hs with hs | hs | hs
            · have := HSB.out k hs
              exact ⟨.inl hs, by omega⟩
            · exact ⟨.inr (by omega), by omega⟩
            · have := Own.mine_ge HL.out.own hs
              exact ⟨.inr (by omega), by omega⟩) ho5 (by simp) hf5 hm5
          have hfin := hst.2
          refine ⟨l ++ [v], r', ar2, cr2, a5, c5, _, rfl, rfl, ?_, hst.1, ?_, ?_, ?_⟩
          · exact HR3.out.fr ((((Fr.refl (fun k => w0.heap.size ≤ k) w3).alloc _).trans (hf5.mono (fun k _ hs => by have := (Own.mine_ge HL.out.own hs).1; omega))).setCell (p := ⟨w0.heap.size, 3, none⟩) (fun _ => Nat.le_refl _) _) (fun k hk hs => .inr hs)
          · rw [HR.out, HST.out, Option.bind_some, Option.map_map]
            congr 1
            funext y
            simp
          · simp only [List.length_append, List.length_cons, List.length_nil]; omega
          · exact HRR.out.fr hfin (fun k hk hs => .inr hs)
        case measure => simp [slen]; omega
end Go.Proofs.Ytelijfdpgachnaa
/- tlv's read, whole. -/
namespace Go.Proofs.Ytelijfdpgachnaa
open Go Go.RowKit
theorem read_ok : ∀ (d : Nat), d < 100 → ∀ (S : Nat → Prop) (b : Value) (xs : List UInt8) (w : World), SB S w → Bs S w b xs → Calls Try.prog 115 #[b, .int .i64 (d : Int)] w (RetR S w (readF d xs)) := by
  intro d
  induction d with
  | zero =>
    intro _ S b xs w hSB hb
    rw [readF]
    unfold readWith
    cases hs : splitF xs with
    | none => exact read_short 0 b xs w hb hs
    | some x =>
      obtain ⟨t, i, r⟩ := x
      rw [Option.bind_some]
      simp only
      split
      · rename_i h1
        split
        · rename_i h2; exact read_num 0 b xs w hb t i r hs h1 h2.1 h2.2
        · rename_i h2; exact read_else 0 b xs w hb t i r hs (fun _ => h2) (by omega) (by omega)
      · rename_i h1
        split
        · rename_i h2; exact read_bytes 0 b xs w hb hSB t i r hs h2
        · rename_i h2
          split
          · exact read_else 0 b xs w hb t i r hs (fun h => absurd h h1) h2 (fun _ => rfl)
          · exact read_else 0 b xs w hb t i r hs (fun h => absurd h h1) h2 (fun _ => rfl)
  | succ d ih =>
    intro hd S b xs w hSB hb
    rw [readF]
    unfold readWith
    cases hs : splitF xs with
    | none => exact read_short (d + 1) b xs w hb hs
    | some x =>
      obtain ⟨t, i, r⟩ := x
      rw [Option.bind_some]
      simp only
      split
      · rename_i h1
        split
        · rename_i h2; exact read_num (d + 1) b xs w hb t i r hs h1 h2.1 h2.2
        · rename_i h2; exact read_else (d + 1) b xs w hb t i r hs (fun _ => h2) (by omega) (by omega)
      · rename_i h1
        split
        · rename_i h2; exact read_bytes (d + 1) b xs w hb hSB t i r hs h2
        · rename_i h2
          split
          · rename_i h3
            exact read_list hSB d (by omega) b xs w rfl hb t i r hs h3 (fun S b xs w hS hb => ih (by omega) S b xs w hS hb)
          · rename_i h3
            exact read_else (d + 1) b xs w hb t i r hs (fun h => absurd h h1) h2 (fun h => absurd h h3)
end Go.Proofs.Ytelijfdpgachnaa
