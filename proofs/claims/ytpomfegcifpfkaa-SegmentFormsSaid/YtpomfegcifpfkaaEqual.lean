/- slices.Equal of bytes. -/
import Derived.Test.YtpomfegcifpfkaaClone
import Derived.Deep.QuietTactic
import Derived.BigQuiet
namespace Go.Proofs.Ytpomfegcifpfkaa
open Go Go.RowKit
theorem take_eq_step {xs ys : List UInt8} {k : Nat} (h : xs.take k = ys.take k) (hx : k < xs.length) (hy : k < ys.length) (he : xs[k] = ys[k]) : xs.take (k + 1) = ys.take (k + 1) := by
  rw [List.take_succ_eq_append_getElem hx, List.take_succ_eq_append_getElem hy, h, he]
theorem below_dN {B : Nat} {a w : World} (h : Below B a w) (n : Nat) : Below B a (w.drewN n) := ⟨h.os, h.tape, h.output, h.size, h.block⟩
theorem below_drewN' (w : World) (n : Nat) : Below w.heap.size w (w.drewN n) := ⟨rfl, rfl, rfl, Nat.le_refl _, fun _ _ => rfl⟩
set_option maxRecDepth 100000 in
set_option maxHeartbeats 800000 in
theorem equalB_ok {S S' : Nat → Prop} (v v' : Value) (xs ys : List UInt8) (w : World) (h : Bs S w v xs) (h' : Bs S' w v' ys) :
    Calls Try.prog 51 #[v, v'] w fun e w' => e = .returned (.bool (decide (xs = ys))) ∧ Below w.heap.size w w' := by
  obtain ⟨a, c, rfl, ⟨hc, _, hm⟩, hn, h4⟩ := h
  obtain ⟨a', c', rfl, ⟨hc', _, hm'⟩, hn', h4'⟩ := h'
  have H4 := hid h4
  have H4' := hid h4'
  unfold maxLen at hm hm'
  clear h4 h4' hn hn'
  by_cases hl : xs.length = ys.length
  · have hne : ((xs.length : Int) != (ys.length : Int)) = false := by simp [hl]
    have HL := hid hl
    have hle : ys.length ≤ xs.length := by omega
    have hle' : xs.length ≤ ys.length := by omega
    clear hl
    go_enter Try.func51, Try.ntmps51
    go_wp2
    go_loopw [5, 13] (fun _ i wr => ∃ k m : Nat, k ≤ xs.length ∧ i = .int .i64 k ∧ xs.take k = ys.take k ∧ wr = w.drewN m) (fun _ i _ => xs.length - (intOf i).toNat)
    case atStart => exact ⟨0, 0, by omega, rfl, by simp, rfl⟩
    case round =>
      obtain ⟨k, m, hk, rfl, htk, rfl⟩ := hrel
      have HTK := hid htk
      clear htk
      by_cases hlt : k < xs.length
      · rcases H4.out with hx | ⟨b, off, ha, hbl, _, hcell⟩
        · rw [hx] at hlt; simp at hlt
        rcases H4'.out with hx | ⟨b', off', ha', hbl', _, hcell'⟩
        · rw [hx] at hle'; simp only [List.length_nil] at hle'; omega
        subst ha ha'
        have hky : k < ys.length := by omega
        have hcx : w.cell? ⟨b, off + k, none⟩ = some (.int .u8 (xs[k].toNat : Int)) := hcell k _ (List.getElem?_eq_getElem hlt)
        have hcy : w.cell? ⟨b', off' + k, none⟩ = some (.int .u8 (ys[k].toNat : Int)) := hcell' k _ (List.getElem?_eq_getElem hky)
        have hd : decide ((k : Int) < (xs.length : Int)) = true := by simp; omega
        clear hcell hcell'
        by_cases he : xs[k] = ys[k]
        · have HT := hid (take_eq_step HTK.out hlt hky he)
          have hb : (((xs[k].toNat : Nat) : Int) != ((ys[k].toNat : Nat) : Int)) = false := by simp [he]
          clear he
          generalize xs[k].toNat = p at *
          generalize ys[k].toNat = q at *
          go_wp2
          go_quiet (fail)
          go_wp2
          go_roundw
          case rel => exact ⟨k + 1, _, by omega, by go_num, HT.out, rfl⟩
          case measure => simp [intOf]; omega
        · have hb : (((xs[k].toNat : Nat) : Int) != ((ys[k].toNat : Nat) : Int)) = true := by
            simp only [bne_iff_ne, ne_eq]
            intro hh
            exact he (UInt8.toNat_inj.1 (by omega))
          have HE := hid he
          clear he
          go_wp2
          go_quiet (fail)
          go_wp2
          go_ret
          exact ⟨ret_bool (by simp; intro h; exact HE.out (by simp only [h])), below_dN (below_dN (Below.refl _ _) _) _⟩
      · obtain rfl : k = xs.length := by omega
        go_wp2
        go_ret
        exact ⟨ret_bool (by
          have h1 := HTK.out
          rw [List.take_length, List.take_of_length_le (by omega)] at h1
          simp [h1]), below_drewN' _ _⟩
  · have hne : ((xs.length : Int) != (ys.length : Int)) = true := by simp only [bne_iff_ne, ne_eq]; omega
    have HL := hid hl
    clear hl
    go_enter Try.func51, Try.ntmps51
    go_wp2
    go_ret
    exact ⟨ret_bool (by simp; intro h; exact HL.out (by rw [h])), Below.refl _ _⟩
end Go.Proofs.Ytpomfegcifpfkaa
