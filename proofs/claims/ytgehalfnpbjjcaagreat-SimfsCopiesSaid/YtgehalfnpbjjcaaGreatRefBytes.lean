/- ref01's Bytes: are they the same? -/
import Derived.Test.YtgehalfnpbjjcaaGreatEqual
namespace Go.Proofs.YtgehalfnpbjjcaaGreat
open Go Go.RowKit
set_option maxRecDepth 100000 in
set_option maxHeartbeats 800000 in
theorem refBytes_ok {S S' : Nat → Prop} (v v' : Value) (xs ys : List UInt8) (w : World) (h : Bs S w v xs) (h' : Bs S' w v' ys) :
    Calls Tryz.prog 22 #[v, v'] w fun e w' => e = .returned (.bool (decide (xs = ys))) ∧ Below w.heap.size w w' := by
  obtain ⟨a, c, rfl, ⟨hc, _, hm⟩, hn, h4⟩ := h
  obtain ⟨a', c', rfl, ⟨hc', _, hm'⟩, hn', h4'⟩ := h'
  have H4 := hid h4
  have H4' := hid h4'
  unfold maxLen at hm hm'
  clear h4 h4' hn hn'
  by_cases hl : xs.length = ys.length
  · have hne : ((xs.length : Int) != (ys.length : Int)) = false := by simp [hl]
    have HL := hid hl
    have hle : ys.length ≤ xs.length := by omega
    have hle' : xs.length ≤ ys.length := by omega
    clear hl
    go_enter Tryz.func22, Tryz.ntmps22
    go_wp2
    go_loopw [5] (fun i wr => ∃ k m : Nat, k ≤ xs.length ∧ i = .int .i64 k ∧ xs.take k = ys.take k ∧ wr = w.drewN m) (fun i _ => xs.length - (intOf i).toNat)
    case atStart => exact ⟨0, 0, by omega, rfl, by simp, rfl⟩
    case round =>
      obtain ⟨k, m, hk, rfl, htk, rfl⟩ := hrel
      have HTK := hid htk
      clear htk
      by_cases hlt : k < xs.length
      · rcases H4.out with hx | ⟨b, off, ha, hbl, _, hcell⟩
        · rw [hx] at hlt; simp at hlt
        rcases H4'.out with hx | ⟨b', off', ha', hbl', _, hcell'⟩
        · rw [hx] at hle'; simp only [List.length_nil] at hle'; omega
        subst ha ha'
        have hky : k < ys.length := by omega
        have hcx : w.cell? ⟨b, off + k, none⟩ = some (.int .u8 (xs[k].toNat : Int)) := hcell k _ (List.getElem?_eq_getElem hlt)
        have hcy : w.cell? ⟨b', off' + k, none⟩ = some (.int .u8 (ys[k].toNat : Int)) := hcell' k _ (List.getElem?_eq_getElem hky)
        have hd : decide ((k : Int) < (xs.length : Int)) = true := by simp; omega
        clear hcell hcell'
        by_cases he : xs[k] = ys[k]
        · have HT := hid (take_eq_step HTK.out hlt hky he)
          have hb : (((xs[k].toNat : Nat) : Int) != ((ys[k].toNat : Nat) : Int)) = false := by simp [he]
          clear he
          generalize xs[k].toNat = p at *
          generalize ys[k].toNat = q at *
          go_wp2
          go_quiet (fail)
          go_wp2
          go_roundw
          case rel => exact ⟨k + 1, _, by omega, by go_num, HT.out, rfl⟩
          case measure => simp [intOf]; omega
        · have hb : (((xs[k].toNat : Nat) : Int) != ((ys[k].toNat : Nat) : Int)) = true := by
            simp only [bne_iff_ne, ne_eq]
            intro hh
            exact he (UInt8.toNat_inj.1 (by omega))
          have HE := hid he
          clear he
          go_wp2
          go_quiet (fail)
          go_wp2
          go_ret
          exact ⟨ret_bool (by simp; intro h; exact HE.out (by simp only [h])), below_dN (below_dN (Below.refl _ _) _) _⟩
      · obtain rfl : k = xs.length := by omega
        go_wp2
        go_ret
        exact ⟨ret_bool (by
          have h1 := HTK.out
          rw [List.take_length, List.take_of_length_le (by omega)] at h1
          simp [h1]), below_drewN' _ _⟩
  · have hne : ((xs.length : Int) != (ys.length : Int)) = true := by simp only [bne_iff_ne, ne_eq]; omega
    have HL := hid hl
    clear hl
    go_enter Tryz.func22, Tryz.ntmps22
    go_wp2
    go_ret
    exact ⟨ret_bool (by simp; intro h; exact HL.out (by rw [h])), Below.refl _ _⟩
end Go.Proofs.YtgehalfnpbjjcaaGreat
