/- crc's run over a table: the register behind all bytes. -/
import Derived.Test.YtelijfdpgachnaaOnceDo
namespace Go.Proofs.Ytelijfdpgachnaa
open Go Go.RowKit
/-- A table that is filled: its cells. -/
structure TabF (w : World) (t : Nat) (c : Array Value) : Prop where
  heap : w.heap[t]? = some (.cells c 108 (0, 0))
  size : c.size = 260
  lock : c[1]? = some (.int .i32 0)
  count : ∃ n : Int, c[259]? = some (.int .i64 n)
  done : c[0]? = some (.int .u32 1)
  rows : ∀ j, j < 256 → c[3 + j]? = some (vu32 (crcRow j))
/-- A table, filled or not yet used. -/
def Tab (w : World) (t : Nat) : Prop :=
  ∃ c, TabF w t c ∨ (w.heap[t]? = some (.cells c 108 (0, 0)) ∧ c.size = 260 ∧ c[1]? = some (.int .i32 0) ∧ (∃ n : Int, c[259]? = some (.int .i64 n)) ∧ c[0]? = some (.int .u32 0))
theorem TabF.fr {w w' : World} {t : Nat} {c : Array Value} (h : TabF w t c) {S : Nat → Prop} (hf : Fr S w w') (hs : ¬ S t) : TabF w' t c :=
  ⟨hf.heap h.heap hs, h.size, h.lock, h.count, h.done, h.rows⟩
theorem Tab.fr {w w' : World} {t : Nat} (h : Tab w t) {S : Nat → Prop} (hf : Fr S w w') (hs : ¬ S t) : Tab w' t := by
  obtain ⟨c, h | ⟨h1, h2⟩⟩ := h
  · exact ⟨c, .inl (h.fr hf hs)⟩
  · exact ⟨c, .inr ⟨hf.heap h1 hs, h2⟩⟩
theorem Tab.lt {w : World} {t : Nat} (h : Tab w t) : t < w.heap.size := by
  obtain ⟨c, h | ⟨h1, h2⟩⟩ := h
  · exact lt_of_heap h.heap
  · exact lt_of_heap h1

/-- The table's Once: behind it the table is filled. -/
theorem do_tab (t : Nat) (w : World) (hT : Tab w t) :
    Calls Try.prog 168 #[.pointer (some ⟨t, 0, none⟩), .func (.func 167) #[.pointer (some ⟨t, 0, none⟩)] #[]] w fun e w' => e = .returned (.tuple #[]) ∧ (∃ c, TabF w' t c) ∧ Fr (· = t) w w' := by
  obtain ⟨c, h | ⟨h1, h2, h3, ⟨n, h4⟩, h5⟩⟩ := hT
  · exact (do_again t c _ w h.heap h.done).mono fun e w' ⟨he, hw⟩ => ⟨he, ⟨c, hw ▸ h⟩, hw ▸ Fr.refl _ _⟩
  · refine (do_first t c w h1 h2 h5 h3).mono fun e w' ⟨he, hT, hF⟩ => ⟨he, ⟨filled c, hT, ?_, ?_, ⟨n, ?_⟩, ?_, ?_⟩, hF⟩
    · simp [filled, rowsTo_size, h2]
    · rw [filled, Array.getElem?_setIfInBounds_self_of_lt (by simp [rowsTo_size, h2])]
    · rw [filled, Array.getElem?_setIfInBounds_ne (by omega), Array.getElem?_setIfInBounds_ne (by omega), rowsTo_head _ _ _ (by omega), Array.getElem?_setIfInBounds_ne (by omega), h4]
    · rw [filled, Array.getElem?_setIfInBounds_ne (by omega), Array.getElem?_setIfInBounds_self_of_lt (by simp [rowsTo_size, h2])]
    · intro j hj
      rw [filled, Array.getElem?_setIfInBounds_ne (by omega), Array.getElem?_setIfInBounds_ne (by omega), rowsTo_row _ _ _ hj (by simp [h2])]

/-- '(*sync/atomic.Int64).Add'. -/
theorem add_ok (a : Addr) (n y : Int) (w : World) (hc : w.cell? a = some (.int .i64 n)) (hz : w.frozen? a = false) :
    Calls Try.prog 121 #[.pointer (some a), .int .i64 y] w fun e w' => e = .returned (.int .i64 (wrap64 (n + y))) ∧ w' = w.setCell a (.int .i64 (wrap64 (n + y))) := by
  have hadd := run_call_add (P := Try.prog) Try.func147 (by kernel_rfl) (by kernel_rfl) (by kernel_rfl) .i64 (by kernel_rfl) (y := y) (s := IntKind.i64.wrap (n + y)) hc hz (by simp [go_sem])
  go_enter Try.func121, Try.ntmps121
  go_wp2
  go_ret
  exact ⟨rfl, rfl⟩

set_option maxRecDepth 100000 in
set_option maxHeartbeats 1600000 in
theorem run_ok (t : Nat) (r : BitVec 32) (b : Value) (xs : List UInt8) (w : World) (hT : Tab w t) (hb : Bs (· = t) w b xs) :
    Calls Try.prog 153 #[.pointer (some ⟨t, 0, none⟩), vu32 r, b] w fun e w' => e = .returned (vu32 (crcRun r xs)) ∧ Tab w' t ∧ Fr (· = t) w w' := by
  have HD := hid (do_tab t w hT)
  have HB := hid hb
  obtain ⟨a, cap, rfl, ⟨hcap, _, hmax⟩, _, h4⟩ := hb
  have hmf : ∀ (fn : Fn) (first cap : Array Value) (w : World), (Instr.makeFunc fn first cap).run Try.prog w = .ok (.func fn first cap) w := fun _ _ _ _ => rfl
  unfold maxLen at hmax
  clear hT
  have H4 := hid h4
  clear h4
  go_enter Try.func153, Try.ntmps153
  go_wp2_with (go_at_call 168; refine (HD.out).mono ?_; rintro e w1 ⟨rfl, ⟨c, hT⟩, hF⟩)
  go_loop [1, 9, 19] (fun q _ i => ∃ k : Nat, k ≤ xs.length ∧ i = .int .i64 k ∧ q = vu32 (crcRun r (xs.take k))) (fun _ _ i => xs.length - (intOf i).toNat)
  case atStart => exact ⟨0, by omega, rfl, by simp [crcRun]⟩
  case round =>
    obtain ⟨k, hk, rfl, rfl⟩ := hrel
    by_cases hlt : k < xs.length
    · rcases H4.out with hx | ⟨b, off, ha, hbl, hbt, hcell⟩
      · rw [hx] at hlt; simp at hlt
      subst ha
      have hx := List.getElem?_eq_getElem hlt
      have hc := (hF.cell (p := ⟨b, off + k, none⟩) hbl hbt).trans (hcell k _ hx)
      have hsn := hid (crcRun_snoc r xs k hlt)
      have hd : decide ((k : Int) < (xs.length : Int)) = true := by simp; omega
      clear hcell hx hF
      generalize xs[k] = x at *
      generalize crcRun r (xs.take k) = q at *
      have hx8 := u8_lt x
      have hq0 : (0 : Int) ≤ (q.toNat : Int) := by omega
      have hq1 : (q.toNat : Int) < 4294967296 := by have := q.isLt; omega
      have hi := crcAt_bits q x
      have hil : ((crcAt q x : Nat) : Int) < 256 := by have := crcAt_lt q x; omega
      have hrow : w1.cell? ⟨t, 3 + crcAt q x, none⟩ = some (.int .u32 ((crcRow (crcAt q x)).toNat : Int)) := by rw [cell_of_heap hT.heap]; exact hT.rows _ (crcAt_lt q x)
      have hby := crcByte_bits q x
      have HT := hid hT
      clear hT
      unfold vu32
      go_wp2
      go_round
      case rel => exact ⟨k + 1, by omega, by go_num, by rw [hsn.out]⟩
      case measure => simp [intOf]; omega
    · obtain rfl : k = xs.length := by omega
      obtain ⟨n, hn⟩ := hT.count
      have hc : w1.cell? ⟨t, 259, none⟩ = some (.int .i64 n) := by rw [cell_of_heap hT.heap]; exact hn
      have hz : w1.frozen? ⟨t, 259, none⟩ = false := frozen_of_row w1 t 259 _ _ hT.heap
      have HT := hid hT
      clear hT hn
      go_wp2_with (go_at_call 121; refine (add_ok ⟨t, 259, none⟩ n _ _ hc hz).mono ?_; rintro e w' ⟨rfl, rfl⟩)
      go_ret
      refine ⟨rfl, ⟨c.setIfInBounds 259 (.int .i64 (wrap64 (n + xs.length))), .inl ⟨heap_store HT.out.heap 259 _, ?_, ?_, ⟨_, Array.getElem?_setIfInBounds_self_of_lt (by rw [HT.out.size]; omega)⟩, ?_, ?_⟩⟩, hF.setCell (fun _ => rfl) _⟩
      · simp [HT.out.size]
      · rw [Array.getElem?_setIfInBounds_ne (by omega)]; exact HT.out.lock
      · rw [Array.getElem?_setIfInBounds_ne (by omega)]; exact HT.out.done
      · intro j hj
        rw [Array.getElem?_setIfInBounds_ne (by omega)]; exact HT.out.rows j hj
end Go.Proofs.Ytelijfdpgachnaa
