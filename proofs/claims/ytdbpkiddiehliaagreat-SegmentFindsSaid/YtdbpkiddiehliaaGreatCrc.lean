/- crc's run over a table: the register behind all bytes. -/
import Derived.Test.YtdbpkiddiehliaaGreatOnceDo
import Derived.Test.YtdbpkiddiehliaaGreatEqual
namespace Go.Proofs.YtdbpkiddiehliaaGreat
open Go Go.RowKit
/-- A table that is filled: its cells. -/
structure TabF (w : World) (t : Nat) (c : Array Value) : Prop where
  heap : w.heap[t]? = some (.cells c 88 (0, 0))
  size : c.size = 260
  lock : c[1]? = some (.int .i32 0)
  count : ∃ n : Int, c[259]? = some (.int .i64 n)
  done : c[0]? = some (.int .u32 1)
  rows : ∀ j, j < 256 → c[3 + j]? = some (vu32 (crcRow j))
/-- A table, filled or not yet used. -/
def Tab (w : World) (t : Nat) : Prop :=
  ∃ c, TabF w t c ∨ (w.heap[t]? = some (.cells c 88 (0, 0)) ∧ c.size = 260 ∧ c[1]? = some (.int .i32 0) ∧ (∃ n : Int, c[259]? = some (.int .i64 n)) ∧ c[0]? = some (.int .u32 0))
theorem TabF.fr {w w' : World} {t : Nat} {c : Array Value} (h : TabF w t c) {S : Nat → Prop} (hf : Fr S w w') (hs : ¬ S t) : TabF w' t c :=
  ⟨hf.heap h.heap hs, h.size, h.lock, h.count, h.done, h.rows⟩
theorem Tab.fr {w w' : World} {t : Nat} (h : Tab w t) {S : Nat → Prop} (hf : Fr S w w') (hs : ¬ S t) : Tab w' t := by
  obtain ⟨c, h | ⟨h1, h2⟩⟩ := h
  · exact ⟨c, .inl (h.fr hf hs)⟩
  · exact ⟨c, .inr ⟨hf.heap h1 hs, h2⟩⟩
theorem Tab.lt {w : World} {t : Nat} (h : Tab w t) : t < w.heap.size := by
  obtain ⟨c, h | ⟨h1, h2⟩⟩ := h
  · exact lt_of_heap h.heap
  · exact lt_of_heap h1

/-- The table's Once: behind it the table is filled. -/
theorem do_tab (t : Nat) (w : World) (hT : Tab w t) :
    Calls Tryz.prog 82 #[.pointer (some ⟨t, 0, none⟩), .func (.func 81) #[.pointer (some ⟨t, 0, none⟩)] #[]] w fun e w' => e = .returned (.tuple #[]) ∧ (∃ c, TabF w' t c) ∧ Fr (· = t) w w' := by
  obtain ⟨c, h | ⟨h1, h2, h3, ⟨n, h4⟩, h5⟩⟩ := hT
  · exact (do_again t c _ w h.heap h.done).mono fun e w' ⟨he, hw⟩ => ⟨he, ⟨c, hw ▸ h⟩, hw ▸ Fr.refl _ _⟩
  · refine (do_first t c w h1 h2 h5 h3).mono fun e w' ⟨he, hT, hF⟩ => ⟨he, ⟨filled c, hT, ?_, ?_, ⟨n, ?_⟩, ?_, ?_⟩, hF⟩
    · simp [filled, rowsTo_size, h2]
    · rw [filled, Array.getElem?_setIfInBounds_self_of_lt (by simp [rowsTo_size, h2])]
    · rw [filled, Array.getElem?_setIfInBounds_ne (by omega), Array.getElem?_setIfInBounds_ne (by omega), rowsTo_head _ _ _ (by omega), Array.getElem?_setIfInBounds_ne (by omega), h4]
    · rw [filled, Array.getElem?_setIfInBounds_ne (by omega), Array.getElem?_setIfInBounds_self_of_lt (by simp [rowsTo_size, h2])]
    · intro j hj
      rw [filled, Array.getElem?_setIfInBounds_ne (by omega), Array.getElem?_setIfInBounds_ne (by omega), rowsTo_row _ _ _ hj (by simp [h2])]

/-- '(*sync/atomic.Int64).Add'. -/
theorem add_ok (a : Addr) (n y : Int) (w : World) (hc : w.cell? a = some (.int .i64 n)) (hz : w.frozen? a = false) :
    Calls Tryz.prog 83 #[.pointer (some a), .int .i64 y] w fun e w' => e = .returned (.int .i64 (wrap64 (n + y))) ∧ w' = w.setCell a (.int .i64 (wrap64 (n + y))) := by
  have hadd := run_call_add (P := Tryz.prog) Tryz.func88 (by kernel_rfl) (by kernel_rfl) (by kernel_rfl) .i64 (by kernel_rfl) (y := y) (s := IntKind.i64.wrap (n + y)) hc hz (by simp [go_sem])
  go_enter Tryz.func83, Tryz.ntmps83
  go_wp2
  go_ret
  exact ⟨rfl, rfl⟩

set_option maxRecDepth 100000 in
set_option maxHeartbeats 1600000 in
theorem run_ok (t : Nat) (r : BitVec 32) (b : Value) (xs : List UInt8) (w : World) (hT : Tab w t) (hb : Bs (· = t) w b xs) :
    Calls Tryz.prog 78 #[.pointer (some ⟨t, 0, none⟩), vu32 r, b] w fun e w' => e = .returned (vu32 (crcRun r xs)) ∧ Tab w' t ∧ Fr (· = t) w w' := by
  have HD := hid (do_tab t w hT)
  have HB := hid hb
  obtain ⟨a, cap, rfl, ⟨hcap, _, hmax⟩, _, h4⟩ := hb
  have hmf : ∀ (fn : Fn) (first cap : Array Value) (w : World), (Instr.makeFunc fn first cap).run Tryz.prog w = .ok (.func fn first cap) w := fun _ _ _ _ => rfl
  unfold maxLen at hmax
  clear hT
  have H4 := hid h4
  clear h4
  go_enter Tryz.func78, Tryz.ntmps78
  go_wp2_with (go_at_call 82; refine (HD.out).mono ?_; rintro e w1 ⟨rfl, ⟨c, hT⟩, hF⟩)
  go_loop [1, 9, 19] (fun q _ i => ∃ k : Nat, k ≤ xs.length ∧ i = .int .i64 k ∧ q = vu32 (crcRun r (xs.take k))) (fun _ _ i => xs.length - (intOf i).toNat)
  case atStart => exact ⟨0, by omega, rfl, by simp [crcRun]⟩
  case round =>
    obtain ⟨k, hk, rfl, rfl⟩ := hrel
    by_cases hlt : k < xs.length
    · rcases H4.out with hx | ⟨b, off, ha, hbl, hbt, hcell⟩
      · rw [hx] at hlt; simp at hlt
      subst ha
      have hx := List.getElem?_eq_getElem hlt
      have hc := (hF.cell (p := ⟨b, off + k, none⟩) hbl hbt).trans (hcell k _ hx)
      have hsn := hid (crcRun_snoc r xs k hlt)
      have hd : decide ((k : Int) < (xs.length : Int)) = true := by simp; omega
      clear hcell hx hF
      generalize xs[k] = x at *
      generalize crcRun r (xs.take k) = q at *
      have hx8 := u8_lt x
      have hq0 : (0 : Int) ≤ (q.toNat : Int) := by omega
      have hq1 : (q.toNat : Int) < 4294967296 := by have := q.isLt; omega
      have hi := crcAt_bits q x
      have hil : ((crcAt q x : Nat) : Int) < 256 := by have := crcAt_lt q x; omega
      have hrow : w1.cell? ⟨t, 3 + crcAt q x, none⟩ = some (.int .u32 ((crcRow (crcAt q x)).toNat : Int)) := by rw [cell_of_heap hT.heap]; exact hT.rows _ (crcAt_lt q x)
      have hby := crcByte_bits q x
      have HT := hid hT
      clear hT
      unfold vu32
      go_wp2
      go_round
      case rel => exact ⟨k + 1, by omega, by go_num, by rw [hsn.out]⟩
      case measure => simp [intOf]; omega
    · obtain rfl : k = xs.length := by omega
      obtain ⟨n, hn⟩ := hT.count
      have hc : w1.cell? ⟨t, 259, none⟩ = some (.int .i64 n) := by rw [cell_of_heap hT.heap]; exact hn
      have hz : w1.frozen? ⟨t, 259, none⟩ = false := frozen_of_row w1 t 259 _ _ hT.heap
      have HT := hid hT
      clear hT hn
      go_wp2_with (go_at_call 83; refine (add_ok ⟨t, 259, none⟩ n _ _ hc hz).mono ?_; rintro e w' ⟨rfl, rfl⟩)
      go_ret
      refine ⟨rfl, ⟨c.setIfInBounds 259 (.int .i64 (wrap64 (n + xs.length))), .inl ⟨heap_store HT.out.heap 259 _, ?_, ?_, ⟨_, Array.getElem?_setIfInBounds_self_of_lt (by rw [HT.out.size]; omega)⟩, ?_, ?_⟩⟩, hF.setCell (fun _ => rfl) _⟩
      · simp [HT.out.size]
      · rw [Array.getElem?_setIfInBounds_ne (by omega)]; exact HT.out.lock
      · rw [Array.getElem?_setIfInBounds_ne (by omega)]; exact HT.out.done
      · intro j hj
        rw [Array.getElem?_setIfInBounds_ne (by omega)]; exact HT.out.rows j hj
end Go.Proofs.YtdbpkiddiehliaaGreat
/- crc's calls: New, More, Sum, Seal, Open. -/
namespace Go.Proofs.YtdbpkiddiehliaaGreat
open Go Go.RowKit
theorem not_u32 (r : BitVec 32) : bits .xor .u32 IntKind.u32.max (r.toNat : Int) = ((~~~ r).toNat : Int) := by
  have h := bits_xor_u32 (BitVec.allOnes 32) r
  rw [show (((BitVec.allOnes 32).toNat : Nat) : Int) = IntKind.u32.max from rfl] at h
  rw [h, BitVec.allOnes_xor]
/-- A byte of a sum. -/
def sumByte (r : BitVec 32) (k : Nat) : UInt8 := UInt8.ofNat (r.toNat / 2 ^ (8 * k))
/-- The four bytes of a sum, the lowest ahead. -/
def tail4 (r : BitVec 32) : List UInt8 := [sumByte r 0, sumByte r 1, sumByte r 2, sumByte r 3]
/-- Bytes, and their sum behind them. -/
def sealed (l : List UInt8) : List UInt8 := l ++ tail4 (crcSum l)
theorem sumByte_val (r : BitVec 32) (k : Nat) : bcell (sumByte r k) = .int .u8 ((r.toNat : Int) / (2 ^ (8 * k) : Nat) % 256) := by
  rw [bcell, sumByte, UInt8.toNat_ofNat']; rfl

set_option maxRecDepth 100000 in
theorem more_ok (t : Nat) (s : BitVec 32) (b : Value) (xs : List UInt8) (w : World) (hT : Tab w t) (hb : Bs (· = t) w b xs) :
    Calls Tryz.prog 67 #[.pointer (some ⟨t, 0, none⟩), vu32 s, b] w fun e w' => e = .returned (vu32 (crcMore s xs)) ∧ Tab w' t ∧ Fr (· = t) w w' := by
  have HR := hid (run_ok t (~~~ s) b xs w hT hb)
  have h1 := not_u32 s
  have h2 := not_u32 (crcRun (~~~ s) xs)
  clear hT hb
  unfold crcMore
  generalize ~~~ s = q at *
  generalize crcRun q xs = p at *
  generalize ~~~ p = z at *
  have H1 := hid h1
  have H2 := hid h2
  clear h1 h2
  unfold vu32 at HR ⊢
  go_enter Tryz.func67, Tryz.ntmps67
  go_wp2_with fail
  rw [H1.out]
  refine (HR.out).mono ?_
  rintro e w1 ⟨rfl, hT, hF⟩
  go_wp2
  go_ret
  exact ⟨ret_int H2.out, hT, hF⟩
set_option maxRecDepth 100000 in
theorem sum_ok (t : Nat) (b : Value) (xs : List UInt8) (w : World) (hT : Tab w t) (hb : Bs (· = t) w b xs) :
    Calls Tryz.prog 51 #[.pointer (some ⟨t, 0, none⟩), b] w fun e w' => e = .returned (vu32 (crcSum xs)) ∧ Tab w' t ∧ Fr (· = t) w w' := by
  have HR := hid (more_ok t 0 b xs w hT hb)
  clear hT hb
  unfold crcSum
  unfold vu32 at HR ⊢
  rw [show (((0 : BitVec 32).toNat : Nat) : Int) = 0 from rfl] at HR
  go_enter Tryz.func51, Tryz.ntmps51
  go_wp2_with (go_at_call 67; refine (HR.out).mono ?_; rintro e w1 ⟨rfl, hT, hF⟩)
  go_ret
  exact ⟨rfl, hT, hF⟩
theorem tail_row (w : World) (r : BitVec 32) : Row (fun _ => False) (w.alloc (.cells #[.int .u8 ((r.toNat : Int) % 256), .int .u8 ((r.toNat : Int) / 256 % 256), .int .u8 ((r.toNat : Int) / 65536 % 256), .int .u8 ((r.toNat : Int) / 16777216)] 5)) (.slice (some ⟨w.heap.size, 0, none⟩) 4 4) 4 1 (bcells (tail4 r)) := by
  refine ⟨rfl, _, 4, rfl, ⟨Nat.le_refl _, by omega, by unfold maxLen; omega⟩, (fun h => nomatch h), .inr ⟨w.heap.size, 0, rfl, by simp, id, fun j x hx => ?_⟩⟩
  rw [cell_of_heap (heap_alloc_new w _)]
  simp only [tail4, bcells, List.map_cons, List.map_nil, sumByte_val] at hx
  match j, hx with
  | 0, hx => simpa using hx
  | 1, hx => simpa using hx
  | 2, hx => simpa using hx
  | 3, hx =>
    have hr := r.isLt
    rw [show ((r.toNat : Int) / 16777216) = (r.toNat : Int) / (2 ^ (8 * 3) : Nat) % 256 from by omega]
    simpa using hx
  | n + 4, hx => simp at hx
set_option maxRecDepth 100000 in
set_option maxHeartbeats 800000 in
theorem seal_ok (t : Nat) (b : Value) (xs : List UInt8) (w : World) (hT : Tab w t) (hb : Bs (· = t) w b xs) (hlen : xs.length ≤ 1099511627776) :
    Calls Tryz.prog 35 #[.pointer (some ⟨t, 0, none⟩), b] w fun e w' => ∃ v', e = .returned v' ∧ OwnB w' w.heap.size v' (sealed xs) ∧ Tab w' t ∧ Fr (· = t) w w' := by
  have ht := hT.lt
  have HR := hid (sum_ok t b xs w hT hb)
  have HB := hid hb
  clear hT hb
  unfold vu32 at HR
  go_enter Tryz.func35, Tryz.ntmps35
  go_wp2_with (first | (go_at_call 51; refine (HR.out).mono ?_; rintro e w1 ⟨rfl, hT, hF⟩) | (go_at_call 52; refine (cloneB_ok _ xs _ (HB.out.fr hF (fun _ _ h => h))).mono ?_; rintro e w2 ⟨v2, rfl, ho, hb2⟩) | (at_builtin; go_loud (refine wpl_append (S := fun _ => False) (base := w1.heap.size) rfl rfl etB rfl (Own.fr ho ((Fr.refl (fun _ => False) w2).alloc _) (fun _ _ h => h)) rfl (tail_row _ _) (bcells_one _) (by omega) (by have := hb2.size; simp; omega) ?_); intro v3 w3 ho3 hf3 hm3))
  go_ret
  have hA : Fr (fun k => w.heap.size ≤ k) w1 w3 := ((Fr.of_below hb2).alloc _).trans' hf3 (fun k hk hm => absurd ((Own.mine_ge ho hm).1) (by omega))
  have hF3 : Fr (· = t) w w3 := hF.trans' hA (fun i hi hk => absurd hk (by omega))
  refine ⟨_, rfl, ?_, hT.fr hA (by omega), hF3⟩
  rw [bcells_append] at ho3
  have hl : xs.length + 4 = (sealed xs).length := by simp [sealed, tail4]
  rw [hl] at ho3
  exact Own.mono ho3 hF.size
end Go.Proofs.YtdbpkiddiehliaaGreat
