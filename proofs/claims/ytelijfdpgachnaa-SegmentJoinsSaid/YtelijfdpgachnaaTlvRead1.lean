/- tlv's read of a number. -/
import Derived.Test.YtelijfdpgachnaaTlvRead
namespace Go.Proofs.Ytelijfdpgachnaa
open Go Go.RowKit
theorem or_u64 (x : Nat) (y : UInt8) (h : x < 72057594037927936) : bits .or .u64 ((x : Int) * 256) (y.toNat : Int) = ((x * 256 + y.toNat : Nat) : Int) := by
  have hy := y.toNat_lt
  have h1 : (BitVec.ofInt 64 ((x : Int) * 256)).toNat = x * 256 := by
    rw [show ((x : Int) * 256) = ((x * 256 : Nat) : Int) by omega, BitVec.ofInt_natCast, BitVec.toNat_ofNat]; omega
  have h2 : (BitVec.ofInt 64 (y.toNat : Int)).toNat = y.toNat := by rw [BitVec.ofInt_natCast, BitVec.toNat_ofNat]; omega
  show IntKind.u64.wrap ((BitVec.ofInt 64 ((x : Int) * 256) ||| BitVec.ofInt 64 (y.toNat : Int)).toNat : Int) = _
  rw [BitVec.toNat_or, h1, h2]
  have h3 : x * 256 ||| y.toNat = x * 256 + y.toNat := by
    rw [show x * 256 = 2 ^ 8 * x by omega, Nat.two_pow_add_eq_or_of_lt (by omega)]
  rw [h3]
  simp [IntKind.wrap, IntKind.signed, IntKind.bits]; omega
theorem bytesNum_snoc (l : List UInt8) (k : Nat) (h : k < l.length) : bytesNum (l.take (k + 1)) = bytesNum (l.take k) * 256 + l[k].toNat := by
  rw [List.take_succ_eq_append_getElem h, bytesNum, List.foldl_append]; rfl
theorem bytesNum_lt (l : List UInt8) (k : Nat) : bytesNum (l.take k) < 256 ^ k := by
  induction k with
  | zero => simp [bytesNum]
  | succ k ih =>
    by_cases h : k < l.length
    · rw [bytesNum_snoc l k h, Nat.pow_succ]
      have := l[k].toNat_lt
      have : bytesNum (l.take k) + 1 ≤ 256 ^ k := ih
      have := Nat.mul_le_mul_right 256 this
      omega
    · rw [List.take_of_length_le (by omega)] at ih ⊢
      rw [Nat.pow_succ]; omega
set_option maxRecDepth 100000 in
set_option maxHeartbeats 2000000 in
theorem read_num {S : Nat → Prop} (d : Nat) (b : Value) (xs : List UInt8) (w : World) (hb : Bs S w b xs) (t : UInt8) (i r : List UInt8) (hsp : splitF xs = some (t, i, r)) (ht : t.toNat = 1) (h8 : i.length ≤ 8) (h0 : i.head? ≠ some 0) :
    Calls Try.prog 115 #[b, .int .i64 (d : Int)] w (RetR S w (some (.mk 1 (bytesNum i) [] [], r))) := by
  have HS := hid (show ∀ w', Bs (SN S w) w' b xs → Calls Try.prog 141 #[b] w' (RetS (SN S w) w' (some (t, i, r))) from fun w' h => hsp ▸ split_ok b xs w' h)
  have HB := hid hb
  have ht' : (t.toNat : Int) = 1 := by omega
  clear hb hsp ht
  have H0 := hid h0
  clear h0
  go_enter Try.func115, Try.ntmps115
  go_upto_block 0 with (go_at_call 141; refine (HS.out _ (HB.out.new ((Fr.refl (fun _ => False) w).alloc _) (fun _ _ h => h.elim))).mono ?_; rintro e w1 ⟨hb1, ai, ci, ar, cr, rfl, hbi, hbr⟩; obtain ⟨hc1, hf1⟩ := wold hb1; have hsz1 : w.heap.size < w1.heap.size := (by have := hb1.size; simp at this; omega))
  have hB : Below w.heap.size w w1 := ((Below.refl _ _).alloc (Nat.le_refl _) _).trans (hb1.mono (by simp))
  have hx1 : w1.heap[w.heap.size]? = some (.cells #[.int .i64 0, .int .u64 0, .slice none 0 0, .slice none 0 0] 112 (0, 0)) := by
    rw [hb1.block _ (by simp)]; exact heap_alloc_new w _
  have hxt := heap_store hx1 0 (.int .i64 1)
  have hFt := (Fr.refl (· = w.heap.size) w1).set1 0 (.int .i64 1)
  generalize w1.setCell ⟨w.heap.size, 0, none⟩ (.int .i64 1) = wt at *
  have hbt := hbi.fr hFt (fun k hk h => .inr (by omega))
  have hrt := hbr.fr hFt (fun k hk h => .inr (by omega))
  have hBt : Below w.heap.size w wt := Below.fr hB hFt (fun i hi e => by omega)
  have HBT := hid hbt
  have HRT := hid hrt
  have HXT := hid hxt
  have HBE := hid hBt
  obtain ⟨_, _, hsl, ⟨hf1a, hf2a, hf3a⟩, _, h4⟩ := hbt
  injection hsl with e1 _ e3
  subst e1 e3
  unfold maxLen at hf3a
  have H4 := hid h4
  clear hrt hBt hxt hFt hx1 hB hc1 hf1 hb1 hbi hbr h4
  have hle8 : decide ((i.length : Int) ≤ 8) = true := by simp; omega
  have hcase : ((i.length : Int) == 0) = true ∨ (((i.length : Int) == 0) = false ∧ ∃ c0 : Int, (c0 != 0) = true ∧ ∃ blk off, ai = some ⟨blk, off, none⟩ ∧ wt.cell? ⟨blk, off, none⟩ = some (.int .u8 c0) ∧ 0 < (i.length : Int)) := by
    cases i with
    | nil => exact .inl rfl
    | cons c0 i =>
      refine .inr ⟨by simp only [List.length_cons, beq_eq_false_iff_ne, ne_eq]; omega, (c0.toNat : Int), ?_, ?_⟩
      · have := H0.out
        simp only [List.head?_cons, ne_eq, Option.some.injEq] at this
        simp only [bne_iff_ne, ne_eq]
        intro hh
        exact this (UInt8.toNat_inj.1 (by simpa using hh))
      · rcases H4.out with h | ⟨blk, off, ha, _, _, hc⟩
        · cases h
        · exact ⟨blk, off, ha, by have := hc 0 c0 rfl; rwa [Nat.add_zero] at this, by simp only [List.length_cons]; omega⟩
  rcases hcase with hz | ⟨hz, c0, hc0, blk, off, rfl, hcell, hpos⟩
  all_goals
    go_wp2
    go_loopw [10, 46] (fun _ j wr => ∃ k : Nat, k ≤ i.length ∧ j = .int .i64 ((k : Nat) : Int) ∧ wr.heap[w.heap.size]? = some (.cells #[.int .i64 1, .int .u64 ((bytesNum (i.take k) : Nat) : Int), .slice none 0 0, .slice none 0 0] 112 (0, 0)) ∧ Fr (· = w.heap.size) wt wr) (fun _ j _ => i.length - (intOf j).toNat)
    case atStart => exact ⟨0, by omega, rfl, by rw [List.take_zero]; exact HXT.out, Fr.refl _ _⟩
    case round =>
      obtain ⟨k, hk, rfl, hx, hF⟩ := hrel
      have b0 := cell_of_heap hx 0
      have b1 := cell_of_heap hx 1
      have b2 := cell_of_heap hx 2
      have b3 := cell_of_heap hx 3
      simp at b0 b1 b2 b3
      have z1 : wr.frozen? ⟨w.heap.size, 1, none⟩ = false := frozen_of_row wr _ 1 _ _ hx
      have z0 : wr.frozen? ⟨w.heap.size, 0, none⟩ = false := frozen_of_row wr _ 0 _ _ hx
      have z2 : wr.frozen? ⟨w.heap.size, 2, none⟩ = false := frozen_of_row wr _ 2 _ _ hx
      have z3 : wr.frozen? ⟨w.heap.size, 3, none⟩ = false := frozen_of_row wr _ 3 _ _ hx
      have hnl := bytesNum_lt i k
      have HX := hid hx
      clear hx
      by_cases hlt : k < i.length
      · have hsn := hid (bytesNum_snoc i k hlt)
        have hN56 : bytesNum (i.take k) < 72057594037927936 := by
          have : 256 ^ k ≤ 256 ^ 7 := Nat.pow_le_pow_right (by omega) (by omega)
          have h7 : (256 : Nat) ^ 7 = 72057594037927936 := rfl
          omega
        rcases H4.out with h | ⟨blk2, off2, ha, hbl2, hS2, hc⟩
        · rw [h] at hlt; simp at hlt
        have hcx : wr.cell? ⟨blk2, off2 + k, none⟩ = some (.int .u8 (i[k].toNat : Int)) := (hF.cell (p := ⟨blk2, off2 + k, none⟩) hbl2 (fun e => hS2 (.inr (by have e' : blk2 = w.heap.size := e; omega)))).trans (hc k _ (List.getElem?_eq_getElem hlt))
        have hcu := u8_lt i[k]
        have hor := or_u64 (bytesNum (i.take k)) i[k] hN56
        have hHS := hid (heap_store HX.out 1 (.int .u64 ((bytesNum (i.take k) * 256 + i[k].toNat : Nat) : Int)))
        have hdl : decide ((k : Int) < (i.length : Int)) = true := by simp; omega
        clear hc hnl
        generalize bytesNum (i.take k) = N at *
        generalize i[k].toNat = q at *
        generalize N * 256 + q = N2 at *
        first
          | (injection ha with ha; injection ha with hb1' hb2' _; subst hb1' hb2')
          | subst ha
        go_wp2
        go_roundw
        case rel => first | exact ⟨k + 1, by omega, by go_num, by rw [hsn.out]; exact hHS.out, hF.set1 _ _⟩ | ((repeat apply Exists.intro); refine ⟨?_, rfl⟩; exact ⟨k + 1, by omega, by go_num, by rw [hsn.out]; exact hHS.out, hF.set1 _ _⟩)
        case measure => simp [intOf]; omega
      · obtain rfl : k = i.length := by omega
        rw [List.take_length] at b1 HX
        have hN64 : bytesNum i < 18446744073709551616 := by
          rw [List.take_length] at hnl
          have : 256 ^ i.length ≤ 256 ^ 8 := Nat.pow_le_pow_right (by omega) h8
          have h7 : (256 : Nat) ^ 8 = 18446744073709551616 := rfl
          omega
        have HN := hid hN64
        clear hnl hN64
        generalize bytesNum i = N at *
        go_wp2
        have hx3 := heap_store (heap_store (heap_store (heap_store HX.out 0 (.int .i64 1)) 1 (.int .u64 (N : Int))) 2 (.slice none 0 0)) 3 (.slice none 0 0)
        have hF2 := (((hF.set1 0 (.int .i64 1)).set1 1 (.int .u64 (N : Int))).set1 2 (.slice none 0 0)).set1 3 (.slice none 0 0)
        refine bodyPost_ret (results_ctt rfl _ _ w.heap.size _ _ _ _ rfl hx3 Try.underlying112 rfl (by kernel_rfl)) rfl (RetR.yes (Below.fr HBE.out hF2 (fun i hi e => by omega)) ⟨_, _, _, _, rfl, ?_⟩ (HRT.out.fr hF2 (fun k hk h => .inr (by omega))))
        rw [TVr]
        exact ⟨HN.out, _, _, [], rfl, Bs.nil _ _, ⟨rfl, none, 0, rfl, ⟨Nat.le_refl _, Nat.zero_le _, Nat.zero_le _⟩, fun _ => rfl, .inl rfl⟩, by rw [TVch]⟩
end Go.Proofs.Ytelijfdpgachnaa
