/- crc's run over a table: the register behind all bytes. -/
import Derived.Test.YtpomfegcifpfkaaOnceDo
import Derived.Test.YtpomfegcifpfkaaEqual
namespace Go.Proofs.Ytpomfegcifpfkaa
open Go Go.RowKit
/-- A table that is filled: its cells. -/
structure TabF (w : World) (t : Nat) (c : Array Value) : Prop where
  heap : w.heap[t]? = some (.cells c 70 (0, 0))
  size : c.size = 260
  lock : c[1]? = some (.int .i32 0)
  count : ∃ n : Int, c[259]? = some (.int .i64 n)
  done : c[0]? = some (.int .u32 1)
  rows : ∀ j, j < 256 → c[3 + j]? = some (vu32 (crcRow j))
/-- A table, filled or not yet used. -/
def Tab (w : World) (t : Nat) : Prop :=
  ∃ c, TabF w t c ∨ (w.heap[t]? = some (.cells c 70 (0, 0)) ∧ c.size = 260 ∧ c[1]? = some (.int .i32 0) ∧ (∃ n : Int, c[259]? = some (.int .i64 n)) ∧ c[0]? = some (.int .u32 0))
theorem TabF.fr {w w' : World} {t : Nat} {c : Array Value} (h : TabF w t c) {S : Nat → Prop} (hf : Fr S w w') (hs : ¬ S t) : TabF w' t c :=
  ⟨hf.heap h.heap hs, h.size, h.lock, h.count, h.done, h.rows⟩
theorem Tab.fr {w w' : World} {t : Nat} (h : Tab w t) {S : Nat → Prop} (hf : Fr S w w') (hs : ¬ S t) : Tab w' t := by
  obtain ⟨c, h | ⟨h1, h2⟩⟩ := h
  · exact ⟨c, .inl (h.fr hf hs)⟩
  · exact ⟨c, .inr ⟨hf.heap h1 hs, h2⟩⟩
theorem Tab.lt {w : World} {t : Nat} (h : Tab w t) : t < w.heap.size := by
  obtain ⟨c, h | ⟨h1, h2⟩⟩ := h
  · exact lt_of_heap h.heap
  · exact lt_of_heap h1

/-- The table's Once: behind it the table is filled. -/
theorem do_tab (t : Nat) (w : World) (hT : Tab w t) :
    Calls Try.prog 70 #[.pointer (some ⟨t, 0, none⟩), .func (.func 69) #[.pointer (some ⟨t, 0, none⟩)] #[]] w fun e w' => e = .returned (.tuple #[]) ∧ (∃ c, TabF w' t c) ∧ Fr (· = t) w w' := by
  obtain ⟨c, h | ⟨h1, h2, h3, ⟨n, h4⟩, h5⟩⟩ := hT
  · exact (do_again t c _ w h.heap h.done).mono fun e w' ⟨he, hw⟩ => ⟨he, ⟨c, hw ▸ h⟩, hw ▸ Fr.refl _ _⟩
  · refine (do_first t c w h1 h2 h5 h3).mono fun e w' ⟨he, hT, hF⟩ => ⟨he, ⟨filled c, hT, ?_, ?_, ⟨n, ?_⟩, ?_, ?_⟩, hF⟩
    · simp [filled, rowsTo_size, h2]
    · rw [filled, Array.getElem?_setIfInBounds_self_of_lt (by simp [rowsTo_size, h2])]
    · rw [filled, Array.getElem?_setIfInBounds_ne (by omega), Array.getElem?_setIfInBounds_ne (by omega), rowsTo_head _ _ _ (by omega), Array.getElem?_setIfInBounds_ne (by omega), h4]
    · rw [filled, Array.getElem?_setIfInBounds_ne (by omega), Array.getElem?_setIfInBounds_self_of_lt (by simp [rowsTo_size, h2])]
    · intro j hj
      rw [filled, Array.getElem?_setIfInBounds_ne (by omega), Array.getElem?_setIfInBounds_ne (by omega), rowsTo_row _ _ _ hj (by simp [h2])]

/-- '(*sync/atomic.Int64).Add'. -/
theorem add_ok (a : Addr) (n y : Int) (w : World) (hc : w.cell? a = some (.int .i64 n)) (hz : w.frozen? a = false) :
    Calls Try.prog 71 #[.pointer (some a), .int .i64 y] w fun e w' => e = .returned (.int .i64 (wrap64 (n + y))) ∧ w' = w.setCell a (.int .i64 (wrap64 (n + y))) := by
  have hadd := run_call_add (P := Try.prog) Try.func76 (by kernel_rfl) (by kernel_rfl) (by kernel_rfl) .i64 (by kernel_rfl) (y := y) (s := IntKind.i64.wrap (n + y)) hc hz (by simp [go_sem])
  go_enter Try.func71, Try.ntmps71
  go_wp2
  go_ret
  exact ⟨rfl, rfl⟩

set_option maxRecDepth 100000 in
set_option maxHeartbeats 1600000 in
theorem run_ok (t : Nat) (r : BitVec 32) (b : Value) (xs : List UInt8) (w : World) (hT : Tab w t) (hb : Bs (· = t) w b xs) :
    Calls Try.prog 66 #[.pointer (some ⟨t, 0, none⟩), vu32 r, b] w fun e w' => e = .returned (vu32 (crcRun r xs)) ∧ Tab w' t ∧ Fr (· = t) w w' := by
  have HD := hid (do_tab t w hT)
  have HB := hid hb
  obtain ⟨a, cap, rfl, ⟨hcap, _, hmax⟩, _, h4⟩ := hb
  have hmf : ∀ (fn : Fn) (first cap : Array Value) (w : World), (Instr.makeFunc fn first cap).run Try.prog w = .ok (.func fn first cap) w := fun _ _ _ _ => rfl
  unfold maxLen at hmax
  clear hT
  have H4 := hid h4
  clear h4
  go_enter Try.func66, Try.ntmps66
  go_wp2_with (go_at_call 70; refine (HD.out).mono ?_; rintro e w1 ⟨rfl, ⟨c, hT⟩, hF⟩)
  go_loop [1, 9, 19] (fun q _ i => ∃ k : Nat, k ≤ xs.length ∧ i = .int .i64 k ∧ q = vu32 (crcRun r (xs.take k))) (fun _ _ i => xs.length - (intOf i).toNat)
  case atStart => exact ⟨0, by omega, rfl, by simp [crcRun]⟩
  case round =>
    obtain ⟨k, hk, rfl, rfl⟩ := hrel
    by_cases hlt : k < xs.length
    · rcases H4.out with hx | ⟨b, off, ha, hbl, hbt, hcell⟩
      · rw [hx] at hlt; simp at hlt
      subst ha
      have hx := List.getElem?_eq_getElem hlt
      have hc := (hF.cell (p := ⟨b, off + k, none⟩) hbl hbt).trans (hcell k _ hx)
      have hsn := hid (crcRun_snoc r xs k hlt)
      have hd : decide ((k : Int) < (xs.length : Int)) = true := by simp; omega
      clear hcell hx hF
      generalize xs[k] = x at *
      generalize crcRun r (xs.take k) = q at *
      have hx8 := u8_lt x
      have hq0 : (0 : Int) ≤ (q.toNat : Int) := by omega
      have hq1 : (q.toNat : Int) < 4294967296 := by have := q.isLt; omega
      have hi := crcAt_bits q x
      have hil : ((crcAt q x : Nat) : Int) < 256 := by have := crcAt_lt q x; omega
      have hrow : w1.cell? ⟨t, 3 + crcAt q x, none⟩ = some (.int .u32 ((crcRow (crcAt q x)).toNat : Int)) := by rw [cell_of_heap hT.heap]; exact hT.rows _ (crcAt_lt q x)
      have hby := crcByte_bits q x
      have HT := hid hT
      clear hT
      unfold vu32
      go_wp2
      go_round
      case rel => exact ⟨k + 1, by omega, by go_num, by rw [hsn.out]⟩
      case measure => simp [intOf]; omega
    · obtain rfl : k = xs.length := by omega
      obtain ⟨n, hn⟩ := hT.count
      have hc : w1.cell? ⟨t, 259, none⟩ = some (.int .i64 n) := by rw [cell_of_heap hT.heap]; exact hn
      have hz : w1.frozen? ⟨t, 259, none⟩ = false := frozen_of_row w1 t 259 _ _ hT.heap
      have HT := hid hT
      clear hT hn
      go_wp2_with (go_at_call 71; refine (add_ok ⟨t, 259, none⟩ n _ _ hc hz).mono ?_; rintro e w' ⟨rfl, rfl⟩)
      go_ret
      refine ⟨rfl, ⟨c.setIfInBounds 259 (.int .i64 (wrap64 (n + xs.length))), .inl ⟨heap_store HT.out.heap 259 _, ?_, ?_, ⟨_, Array.getElem?_setIfInBounds_self_of_lt (by rw [HT.out.size]; omega)⟩, ?_, ?_⟩⟩, hF.setCell (fun _ => rfl) _⟩
      · simp [HT.out.size]
      · rw [Array.getElem?_setIfInBounds_ne (by omega)]; exact HT.out.lock
      · rw [Array.getElem?_setIfInBounds_ne (by omega)]; exact HT.out.done
      · intro j hj
        rw [Array.getElem?_setIfInBounds_ne (by omega)]; exact HT.out.rows j hj
end Go.Proofs.Ytpomfegcifpfkaa
/- crc's calls: New, More, Sum, Seal, Open. -/
namespace Go.Proofs.Ytpomfegcifpfkaa
open Go Go.RowKit
theorem not_u32 (r : BitVec 32) : bits .xor .u32 IntKind.u32.max (r.toNat : Int) = ((~~~ r).toNat : Int) := by
  have h := bits_xor_u32 (BitVec.allOnes 32) r
  rw [show (((BitVec.allOnes 32).toNat : Nat) : Int) = IntKind.u32.max from rfl] at h
  rw [h, BitVec.allOnes_xor]
/-- A byte of a sum. -/
def sumByte (r : BitVec 32) (k : Nat) : UInt8 := UInt8.ofNat (r.toNat / 2 ^ (8 * k))
/-- The four bytes of a sum, the lowest ahead. -/
def tail4 (r : BitVec 32) : List UInt8 := [sumByte r 0, sumByte r 1, sumByte r 2, sumByte r 3]
/-- Bytes, and their sum behind them. -/
def sealed (l : List UInt8) : List UInt8 := l ++ tail4 (crcSum l)
theorem sumByte_val (r : BitVec 32) (k : Nat) : bcell (sumByte r k) = .int .u8 ((r.toNat : Int) / (2 ^ (8 * k) : Nat) % 256) := by
  rw [bcell, sumByte, UInt8.toNat_ofNat']; rfl

set_option maxRecDepth 100000 in
theorem more_ok (t : Nat) (s : BitVec 32) (b : Value) (xs : List UInt8) (w : World) (hT : Tab w t) (hb : Bs (· = t) w b xs) :
    Calls Try.prog 58 #[.pointer (some ⟨t, 0, none⟩), vu32 s, b] w fun e w' => e = .returned (vu32 (crcMore s xs)) ∧ Tab w' t ∧ Fr (· = t) w w' := by
  have HR := hid (run_ok t (~~~ s) b xs w hT hb)
  have h1 := not_u32 s
  have h2 := not_u32 (crcRun (~~~ s) xs)
  clear hT hb
  unfold crcMore
  generalize ~~~ s = q at *
  generalize crcRun q xs = p at *
  generalize ~~~ p = z at *
  have H1 := hid h1
  have H2 := hid h2
  clear h1 h2
  unfold vu32 at HR ⊢
  go_enter Try.func58, Try.ntmps58
  go_wp2_with fail
  rw [H1.out]
  refine (HR.out).mono ?_
  rintro e w1 ⟨rfl, hT, hF⟩
  go_wp2
  go_ret
  exact ⟨ret_int H2.out, hT, hF⟩
set_option maxRecDepth 100000 in
theorem sum_ok (t : Nat) (b : Value) (xs : List UInt8) (w : World) (hT : Tab w t) (hb : Bs (· = t) w b xs) :
    Calls Try.prog 47 #[.pointer (some ⟨t, 0, none⟩), b] w fun e w' => e = .returned (vu32 (crcSum xs)) ∧ Tab w' t ∧ Fr (· = t) w w' := by
  have HR := hid (more_ok t 0 b xs w hT hb)
  clear hT hb
  unfold crcSum
  unfold vu32 at HR ⊢
  rw [show (((0 : BitVec 32).toNat : Nat) : Int) = 0 from rfl] at HR
  go_enter Try.func47, Try.ntmps47
  go_wp2_with (go_at_call 58; refine (HR.out).mono ?_; rintro e w1 ⟨rfl, hT, hF⟩)
  go_ret
  exact ⟨rfl, hT, hF⟩
theorem tail_row (w : World) (r : BitVec 32) : Row (fun _ => False) (w.alloc (.cells #[.int .u8 ((r.toNat : Int) % 256), .int .u8 ((r.toNat : Int) / 256 % 256), .int .u8 ((r.toNat : Int) / 65536 % 256), .int .u8 ((r.toNat : Int) / 16777216)] 5)) (.slice (some ⟨w.heap.size, 0, none⟩) 4 4) 4 1 (bcells (tail4 r)) := by
  refine ⟨rfl, _, 4, rfl, ⟨Nat.le_refl _, by omega, by unfold maxLen; omega⟩, (fun h => nomatch h), .inr ⟨w.heap.size, 0, rfl, by simp, id, fun j x hx => ?_⟩⟩
  rw [cell_of_heap (heap_alloc_new w _)]
  simp only [tail4, bcells, List.map_cons, List.map_nil, sumByte_val] at hx
  match j, hx with
  | 0, hx => simpa using hx
  | 1, hx => simpa using hx
  | 2, hx => simpa using hx
  | 3, hx =>
    have hr := r.isLt
    rw [show ((r.toNat : Int) / 16777216) = (r.toNat : Int) / (2 ^ (8 * 3) : Nat) % 256 from by omega]
    simpa using hx
  | n + 4, hx => simp at hx
set_option maxRecDepth 100000 in
set_option maxHeartbeats 800000 in
theorem seal_ok (t : Nat) (b : Value) (xs : List UInt8) (w : World) (hT : Tab w t) (hb : Bs (· = t) w b xs) (hlen : xs.length ≤ 1099511627776) :
    Calls Try.prog 22 #[.pointer (some ⟨t, 0, none⟩), b] w fun e w' => ∃ v', e = .returned v' ∧ OwnB w' w.heap.size v' (sealed xs) ∧ Tab w' t ∧ Fr (· = t) w w' := by
  have ht := hT.lt
  have HR := hid (sum_ok t b xs w hT hb)
  have HB := hid hb
  clear hT hb
  unfold vu32 at HR
  go_enter Try.func22, Try.ntmps22
  go_wp2_with (first | (go_at_call 47; refine (HR.out).mono ?_; rintro e w1 ⟨rfl, hT, hF⟩) | (go_at_call 48; refine (cloneB_ok _ xs _ (HB.out.fr hF (fun _ _ h => h))).mono ?_; rintro e w2 ⟨v2, rfl, ho, hb2⟩) | (at_builtin; go_loud (refine wpl_append (S := fun _ => False) (base := w1.heap.size) rfl rfl etB rfl (Own.fr ho ((Fr.refl (fun _ => False) w2).alloc _) (fun _ _ h => h)) rfl (tail_row _ _) (bcells_one _) (by omega) (by have := hb2.size; simp; omega) ?_); intro v3 w3 ho3 hf3 hm3))
  go_ret
  have hA : Fr (fun k => w.heap.size ≤ k) w1 w3 := ((Fr.of_below hb2).alloc _).trans' hf3 (fun k hk hm => absurd ((Own.mine_ge ho hm).1) (by omega))
  have hF3 : Fr (· = t) w w3 := hF.trans' hA (fun i hi hk => absurd hk (by omega))
  refine ⟨_, rfl, ?_, hT.fr hA (by omega), hF3⟩
  rw [bcells_append] at ho3
  have hl : xs.length + 4 = (sealed xs).length := by simp [sealed, tail4]
  rw [hl] at ho3
  exact Own.mono ho3 hF.size
end Go.Proofs.Ytpomfegcifpfkaa
/- crc's Open and New. -/
namespace Go.Proofs.Ytpomfegcifpfkaa
open Go Go.RowKit
theorem Bs.take {S : Nat → Prop} {w : World} {a : Option Addr} {c : Nat} {xs : List UInt8} (h : Bs S w (.slice a xs.length c) xs) (k : Nat) (hk : k ≤ xs.length) : Bs S w (.slice a k c) (xs.take k) := by
  obtain ⟨a', c', h1, h2, h3', h4⟩ := h
  injection h1 with e1 _ e3
  subst e1 e3
  have hl : (xs.take k).length = k := by simp; omega
  refine ⟨a, c, by rw [hl], ⟨by have := h2.1; omega, by have := h2.2.1; omega, h2.2.2⟩, h3', ?_⟩
  rcases h4 with h4 | ⟨b, off, e1, e2, e3, e4⟩
  · subst h4; exact .inl (by simp)
  · refine .inr ⟨b, off, e1, e2, e3, fun i x hx => e4 i x ?_⟩
    have hi : i < k := by have := (List.getElem?_eq_some_iff.1 hx).1; omega
    rwa [List.getElem?_take_of_lt hi] at hx
/-- What Open answers: bytes, and a fault's number. -/
def crcOpenF (xs : List UInt8) : List UInt8 × Int :=
  if xs.length < 4 then ([], 3) else if sealed (xs.take (xs.length - 4)) = xs then (xs.take (xs.length - 4), 0) else ([], 4)
theorem crcOpen_short {xs : List UInt8} (h : xs.length < 4) : crcOpenF xs = ([], 3) := by simp [crcOpenF, h]
theorem crcOpen_ok {xs : List UInt8} (h : ¬ xs.length < 4) (h2 : sealed (xs.take (xs.length - 4)) = xs) : crcOpenF xs = (xs.take (xs.length - 4), 0) := by rw [crcOpenF, if_neg h, if_pos h2]
theorem crcOpen_bad {xs : List UInt8} (h : ¬ xs.length < 4) (h2 : ¬ sealed (xs.take (xs.length - 4)) = xs) : crcOpenF xs = ([], 4) := by rw [crcOpenF, if_neg h, if_neg h2]
/-- Bytes that were made, and a fault. -/
def RetBF (w : World) (t : Nat) (r : List UInt8 × Int) (e : Ending) (w' : World) : Prop :=
  ∃ v', e = .returned (.tuple #[v', .int .i64 r.2]) ∧ OwnB w' w.heap.size v' r.1 ∧ Tab w' t ∧ Fr (· = t) w w'
set_option maxRecDepth 100000 in
set_option maxHeartbeats 1000000 in
theorem open_ok (t : Nat) (b : Value) (xs : List UInt8) (w : World) (hT : Tab w t) (hb : Bs (· = t) w b xs) (hlen : xs.length ≤ 1099511627776) :
    Calls Try.prog 26 #[.pointer (some ⟨t, 0, none⟩), b] w (RetBF w t (crcOpenF xs)) := by
  have HB := hid hb
  obtain ⟨a, c, rfl, ⟨hc, _, hm⟩, _, _⟩ := hb
  unfold maxLen at hm
  by_cases hs : xs.length < 4
  · have hd : decide (((xs.length : Int) - 4) < 0) = true := by simp; omega
    have HT := hid hT
    rw [crcOpen_short hs]
    clear hT
    go_enter Try.func26, Try.ntmps26
    go_wp2_with fail
    go_ret2
    exact ⟨_, rfl, Own.nil _ _ _ _, HT.out, Fr.refl _ _⟩
  · obtain ⟨k, hk⟩ : ∃ k, k = xs.length - 4 := ⟨_, rfl⟩
    have hkl : (xs.length : Int) - 4 = (k : Int) := by omega
    have hk2 : k + 4 = xs.length := by omega
    have hd : decide ((k : Int) < 0) = false := by simp
    have HTk := hid (HB.out.take k (by omega))
    have HT := hid hT
    have hq := fun W => eql_slice_nil (P := Try.prog) W a xs.length c Try.underlying23
    have HRF := hid (show crcOpenF xs = if sealed (xs.take k) = xs then (xs.take k, 0) else ([], 4) by rw [crcOpenF, if_neg hs, ← hk])
    have hlk : (xs.take k).length ≤ 1099511627776 := by simp; omega
    rw [HRF.out]
    clear hT hk HRF hs
    have hk3 : k ≤ xs.length := by omega
    clear hk2
    by_cases he : sealed (xs.take k) = xs
    · rw [if_pos he]
      have hde : decide (sealed (xs.take k) = xs) = true := by simp [he]
      have HE := hid he
      clear he
      generalize xs.take k = ys at *
      go_enter Try.func26, Try.ntmps26
      go_wp2_with (first | (go_at_call 22; refine (seal_ok t _ ys _ HT.out HTk.out hlk).mono ?_; rintro e w1 ⟨v1, rfl, ho1, hT1, hF1⟩) | (go_at_call 51; (refine (equalB_ok (S := fun _ => False) (S' := (· = t)) _ _ (sealed ys) xs _ (ho1.bs (fun _ _ _ h => h)) (HB.out.fr hF1 (fun _ _ h => h))).mono ?_); rintro e w2 ⟨rfl, hb2⟩) | (go_at_call 48; (refine (cloneB_ok (S := (· = t)) _ ys _ ((HTk.out.fr hF1 (fun _ _ h => h)).fr (Fr.of_below hb2) (fun _ _ h => h)) ).mono ?_); rintro e w3 ⟨v3, rfl, ho3, hb3⟩))
      go_ret2
      have hF := (hF1.trans (Fr.of_below hb2)).trans (Fr.of_below hb3)
      exact ⟨_, rfl, Own.mono ho3 (Nat.le_trans hF1.size hb2.size), (hT1.fr (S := fun _ => False) (Fr.of_below hb2) id).fr (S := fun _ => False) (Fr.of_below hb3) id, hF⟩
    · rw [if_neg he]
      have hde : decide (sealed (xs.take k) = xs) = false := by simp [he]
      have HE := hid he
      clear he
      generalize xs.take k = ys at *
      go_enter Try.func26, Try.ntmps26
      go_wp2_with (first | (go_at_call 22; refine (seal_ok t _ ys _ HT.out HTk.out hlk).mono ?_; rintro e w1 ⟨v1, rfl, ho1, hT1, hF1⟩) | (go_at_call 51; (refine (equalB_ok (S := fun _ => False) (S' := (· = t)) _ _ (sealed ys) xs _ (ho1.bs (fun _ _ _ h => h)) (HB.out.fr hF1 (fun _ _ h => h))).mono ?_); rintro e w2 ⟨rfl, hb2⟩) | (go_at_call 48; (refine (cloneB_ok (S := (· = t)) _ ys _ ((HTk.out.fr hF1 (fun _ _ h => h)).fr (Fr.of_below hb2) (fun _ _ h => h)) ).mono ?_); rintro e w3 ⟨v3, rfl, ho3, hb3⟩))
      go_ret2
      exact ⟨_, rfl, Own.nil _ _ _ _, hT1.fr (S := fun _ => False) (Fr.of_below hb2) id, hF1.trans (Fr.of_below hb2)⟩
/-- Of no table. -/
theorem open_nil (b : Value) (w : World) (a : Option Addr) (n c : Nat) (hb : b = .slice a n c) (hn : n ≤ 1099511627776) :
    Calls Try.prog 26 #[.pointer none, b] w fun e w' => e = .returned (.tuple #[.slice none 0 0, .int .i64 18]) ∧ w = w' := by
  subst hb
  go_enter Try.func26, Try.ntmps26
  go_wp2_with fail
  go_ret2
  exact ⟨rfl, rfl⟩
/-- A new table. -/
theorem new_ok (w : World) : Calls Try.prog 5 #[] w fun e w' => ∃ t, e = .returned (.pointer (some ⟨t, 0, none⟩)) ∧ w.heap.size ≤ t ∧ Tab w' t ∧ Below w.heap.size w w' := by
  go_enter Try.func5, Try.ntmps5
  go_wp2
  go_ret
  refine ⟨w.heap.size, rfl, Nat.le_refl _, ⟨Try.zeroCells70, .inr ⟨heap_alloc_new w _, by kernel_rfl, by kernel_rfl, ⟨0, by kernel_rfl⟩, by kernel_rfl⟩⟩, (Below.refl _ _).alloc (Nat.le_refl _) _⟩
end Go.Proofs.Ytpomfegcifpfkaa
/- One byte of sealed bytes turned is told: the sum is linear, and no step of it loses anything. -/
namespace Go.Proofs.Ytpomfegcifpfkaa
open Go Go.RowKit
theorem xor_left (a b c : BitVec 32) : a ^^^ (b ^^^ c) = b ^^^ (a ^^^ c) := by rw [← BitVec.xor_assoc, BitVec.xor_comm a b, BitVec.xor_assoc]
theorem half_xor (a b : BitVec 32) : half (a ^^^ b) = half a ^^^ half b := by
  unfold half
  rw [BitVec.getLsbD_xor, BitVec.ushiftRight_xor_distrib]
  cases a.getLsbD 0 <;> cases b.getLsbD 0 <;> simp [BitVec.xor_assoc] <;> first | done | exact xor_left _ _ _ | exact BitVec.xor_comm _ _ | (rw [xor_left, BitVec.xor_self, BitVec.xor_zero]) | (rw [xor_left, BitVec.xor_comm])
theorem halfs_xor (k : Nat) (a b : BitVec 32) : halfs k (a ^^^ b) = halfs k a ^^^ halfs k b := by
  induction k with
  | zero => rfl
  | succ k ih => rw [halfs, halfs, halfs, ih, half_xor]
theorem half_eq_zero {x : BitVec 32} (h : half x = 0#32) : x = 0#32 := by
  unfold half at h
  split at h
  · exfalso
    have h31 := congrArg (fun y : BitVec 32 => y.getLsbD 31) h
    simp only [BitVec.getLsbD_xor, BitVec.getLsbD_ushiftRight] at h31
    rw [BitVec.getLsbD_of_ge x (1 + 31) (by omega)] at h31
    revert h31
    decide
  · rename_i h0
    apply BitVec.eq_of_getLsbD_eq
    intro i hi
    rw [BitVec.getLsbD_zero]
    cases i with
    | zero => simpa using h0
    | succ i =>
      have := congrArg (fun y : BitVec 32 => y.getLsbD i) h
      simp only [BitVec.getLsbD_ushiftRight, BitVec.getLsbD_zero] at this
      rw [Nat.add_comm]; exact this
theorem xor_eq_zero {a b : BitVec 32} (h : a ^^^ b = 0#32) : a = b := by
  have := congrArg (fun y => y ^^^ b) h
  simpa [BitVec.xor_assoc] using this
theorem halfs_eq_zero : ∀ (k : Nat) {x : BitVec 32}, halfs k x = 0#32 → x = 0#32
  | 0, _, h => h
  | k + 1, _, h => halfs_eq_zero k (half_eq_zero h)
theorem halfs_inj {k : Nat} {a b : BitVec 32} (h : halfs k a = halfs k b) : a = b :=
  xor_eq_zero (halfs_eq_zero k (by rw [halfs_xor, h, BitVec.xor_self]))
theorem half_up {x : BitVec 32} (h : x.toNat % 2 = 0) : half x = x >>> 1 := by
  unfold half
  rw [if_neg]
  rw [BitVec.getLsbD, Nat.testBit_zero]; simp [h]
theorem halfs_up : ∀ (k : Nat) {x : BitVec 32}, x.toNat % 2 ^ k = 0 → halfs k x = x >>> k
  | 0, x, _ => by simp [halfs]
  | k + 1, x, h => by
    have h1 : x.toNat % 2 ^ k = 0 := by
      have := Nat.mod_mod_of_dvd x.toNat (Nat.pow_dvd_pow 2 (Nat.le_succ k))
      rw [h] at this; simpa using this.symm
    rw [halfs, halfs_up k h1, half_up]
    · rw [BitVec.shiftRight_add]
    · rw [BitVec.toNat_ushiftRight, Nat.shiftRight_eq_div_pow]
      rw [Nat.pow_succ] at h
      rw [Nat.mod_mul] at h
      rw [h1, Nat.zero_add] at h
      rcases Nat.mul_eq_zero.mp h with h | h
      · have := Nat.two_pow_pos k; omega
      · exact h
/-- A byte through a register is eight bits of it. -/
theorem crcByte_halfs (r : BitVec 32) (c : UInt8) : crcByte r c = halfs 8 (r ^^^ BitVec.ofNat 32 c.toNat) := by
  have hs : r = BitVec.ofNat 32 (r.toNat % 256) ^^^ BitVec.ofNat 32 (r.toNat / 256 * 256) := by
    apply BitVec.eq_of_toNat_eq
    rw [BitVec.toNat_xor, BitVec.toNat_ofNat, BitVec.toNat_ofNat, Nat.mod_eq_of_lt (a := r.toNat % 256) (by omega), Nat.mod_eq_of_lt (a := r.toNat / 256 * 256) (by have := r.isLt; omega)]
    apply Nat.eq_of_testBit_eq
    intro i
    rw [Nat.testBit_xor, show (256 : Nat) = 2 ^ 8 from rfl, Nat.testBit_mod_two_pow, Nat.testBit_mul_two_pow, Nat.testBit_div_two_pow]
    by_cases hi : i < 8
    · simp [hi, Nat.not_le.mpr hi]
    · have : 8 ≤ i := by omega
      simp [hi, this, Nat.sub_add_cancel this]
  have hm : (BitVec.ofNat 32 (r.toNat / 256 * 256)).toNat = r.toNat / 256 * 256 := by
    rw [BitVec.toNat_ofNat, Nat.mod_eq_of_lt (by have := r.isLt; omega)]
  have hu := halfs_up 8 (x := BitVec.ofNat 32 (r.toNat / 256 * 256)) (by rw [hm]; exact Nat.mul_mod_left _ _)
  have hx : BitVec.ofNat 32 ((r.toNat % 256) ^^^ c.toNat) = BitVec.ofNat 32 (r.toNat % 256) ^^^ BitVec.ofNat 32 c.toNat := by
    apply BitVec.eq_of_toNat_eq
    have h1 : (r.toNat % 256) ^^^ c.toNat < 256 := Nat.xor_lt_two_pow (n := 8) (Nat.mod_lt _ (by decide)) c.toNat_lt
    have h2 : c.toNat < 256 := c.toNat_lt
    rw [BitVec.toNat_xor, BitVec.toNat_ofNat, BitVec.toNat_ofNat, BitVec.toNat_ofNat, Nat.mod_eq_of_lt (by omega), Nat.mod_eq_of_lt (a := r.toNat % 256) (by omega), Nat.mod_eq_of_lt (a := c.toNat) (by omega)]
  have hsh : (BitVec.ofNat 32 (r.toNat / 256 * 256)) >>> 8 = r >>> 8 := by
    apply BitVec.eq_of_toNat_eq
    rw [BitVec.toNat_ushiftRight, BitVec.toNat_ushiftRight, hm, Nat.shiftRight_eq_div_pow, Nat.shiftRight_eq_div_pow]
    show r.toNat / 256 * 256 / 256 = r.toNat / 256
    omega
  rw [crcByte, crcRow, hx, ← hsh, ← hu, ← halfs_xor]
  congr 1
  conv => rhs; rw [hs]
  rw [BitVec.xor_assoc, BitVec.xor_comm (BitVec.ofNat 32 c.toNat), BitVec.xor_assoc]
theorem xor_right_inj {a b c : BitVec 32} (h : a ^^^ c = b ^^^ c) : a = b := by
  have := congrArg (fun y => y ^^^ c) h
  simpa [BitVec.xor_assoc] using this
theorem crcByte_left {r s : BitVec 32} {c : UInt8} (h : crcByte r c = crcByte s c) : r = s := by
  rw [crcByte_halfs, crcByte_halfs] at h
  exact xor_right_inj (halfs_inj h)
theorem crcByte_right {r : BitVec 32} {c d : UInt8} (h : crcByte r c = crcByte r d) : c = d := by
  rw [crcByte_halfs, crcByte_halfs, BitVec.xor_comm r, BitVec.xor_comm r] at h
  have h := congrArg BitVec.toNat (xor_right_inj (halfs_inj h))
  have h1 := c.toNat_lt
  have h2 := d.toNat_lt
  rw [BitVec.toNat_ofNat, BitVec.toNat_ofNat, Nat.mod_eq_of_lt (by omega), Nat.mod_eq_of_lt (by omega)] at h
  exact UInt8.toNat_inj.mp h
theorem crcRun_left : ∀ (l : List UInt8) {r s : BitVec 32}, crcRun r l = crcRun s l → r = s
  | [], _, _, h => h
  | c :: l, r, s, h => crcByte_left (c := c) (crcRun_left l (by simpa [crcRun] using h))
theorem crcRun_turned (r : BitVec 32) (p q : List UInt8) {c d : UInt8} (h : crcRun r (p ++ c :: q) = crcRun r (p ++ d :: q)) : c = d := by
  simp only [crcRun, List.foldl_append, List.foldl_cons] at h
  exact crcByte_right (crcRun_left q h)
theorem crcSum_turned (p q : List UInt8) {c d : UInt8} (h : crcSum (p ++ c :: q) = crcSum (p ++ d :: q)) : c = d := by
  unfold crcSum crcMore at h
  have h := congrArg (fun y => ~~~ y) h
  simp only [BitVec.not_not] at h
  exact crcRun_turned _ p q h
theorem tail4_inj {a b : BitVec 32} (h : tail4 a = tail4 b) : a = b := by
  simp only [tail4, List.cons.injEq, and_true] at h
  obtain ⟨h0, h1, h2, h3⟩ := h
  have e : ∀ k, sumByte a k = sumByte b k → a.toNat / 2 ^ (8 * k) % 256 = b.toNat / 2 ^ (8 * k) % 256 := by
    intro k h
    have := congrArg UInt8.toNat h
    rw [sumByte, sumByte, UInt8.toNat_ofNat', UInt8.toNat_ofNat'] at this
    exact this
  have e0 := e 0 h0
  have e1 := e 1 h1
  have e2 := e 2 h2
  have e3 := e 3 h3
  apply BitVec.eq_of_toNat_eq
  have := a.isLt
  have := b.isLt
  simp only [Nat.reduceMul, Nat.reducePow, Nat.div_one] at e0 e1 e2 e3
  omega
theorem crcOpen_sealed (l : List UInt8) : crcOpenF (sealed l) = (l, 0) := by
  have h : (sealed l).length = l.length + 4 := by simp [sealed, tail4]
  have ht : (sealed l).take ((sealed l).length - 4) = l := by rw [h, Nat.add_sub_cancel, sealed, List.take_left]
  rw [crcOpen_ok (by omega) (by rw [ht]), ht]
theorem crcOpen_back {x l : List UInt8} (h : crcOpenF x = (l, 0)) : x = sealed l := by
  unfold crcOpenF at h
  split at h
  · simp at h
  · split at h
    · rename_i hs
      simp only [Prod.mk.injEq, and_true] at h
      rw [h] at hs; exact hs.symm
    · simp at h
/-- Sealed bytes of which one is another one are corrupt. -/
theorem crcOpen_turned (l : List UInt8) (k : Nat) (hk : k < (sealed l).length) (d : UInt8) (hd : d ≠ (sealed l)[k]) : crcOpenF ((sealed l).set k d) = ([], 4) := by
  have h : (sealed l).length = l.length + 4 := by simp [sealed, tail4]
  have hn : ((sealed l).set k d).length - 4 = l.length := by rw [List.length_set, h, Nat.add_sub_cancel]
  refine crcOpen_bad (by rw [List.length_set]; omega) ?_
  rw [hn]
  intro he
  by_cases hl : k < l.length
  · have ht : ((sealed l).set k d) = l.set k d ++ tail4 (crcSum l) := by rw [sealed, List.set_append_left _ _ hl]
    rw [ht, List.take_left' (by rw [List.length_set])] at he
    rw [sealed] at he
    have h4 := tail4_inj (List.append_cancel_left he)
    rw [List.set_eq_take_append_cons_drop, if_pos hl] at h4
    have hsl : l = l.take k ++ l[k] :: l.drop (k + 1) := by rw [← List.drop_eq_getElem_cons hl, List.take_append_drop]
    conv at h4 => rhs; rw [hsl]
    have := crcSum_turned _ _ h4
    apply hd
    simp only [sealed, List.getElem_append_left hl, this]
  · have ht : ((sealed l).set k d).take l.length = l := by
      rw [List.take_set_of_le (by omega)]
      exact List.take_left
    rw [ht] at he
    apply hd
    have := congrArg (fun y : List UInt8 => y[k]?) he
    simp only [List.getElem?_set_self hk, List.getElem?_eq_getElem hk, Option.some.injEq] at this
    exact this.symm
end Go.Proofs.Ytpomfegcifpfkaa
