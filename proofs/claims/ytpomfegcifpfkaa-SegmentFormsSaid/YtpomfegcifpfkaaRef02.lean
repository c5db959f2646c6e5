/- ref02: the sum bit by bit, and what is sealed. -/
import Derived.Test.YtpomfegcifpfkaaCrcBack
import Derived.Test.YtpomfegcifpfkaaRefBytes
namespace Go.Proofs.Ytpomfegcifpfkaa
open Go Go.RowKit
theorem odd_u32 (r : BitVec 32) : (((r.toNat : Int) % 2 == 1) = r.getLsbD 0) := by
  rw [BitVec.getLsbD, Nat.testBit_zero]
  have := Nat.mod_two_eq_zero_or_one r.toNat
  rcases this with h | h
  · rw [show ((r.toNat : Int) % 2) = 0 by omega]; simp [h]
  · rw [show ((r.toNat : Int) % 2) = 1 by omega]; simp [h]
theorem crcRun_next (r : BitVec 32) (l : List UInt8) (k : Nat) (h : k < l.length) : crcRun r (l.take (k + 1)) = halfs 8 (crcRun r (l.take k) ^^^ BitVec.ofNat 32 l[k].toNat) := by
  rw [crcRun_snoc r l k h, crcByte_halfs]
theorem bits_xor_byte (q : BitVec 32) (c : UInt8) : bits .xor .u32 (q.toNat : Int) (c.toNat : Int) = ((q ^^^ BitVec.ofNat 32 c.toNat).toNat : Int) := by
  have h := bits_xor_u32 q (BitVec.ofNat 32 c.toNat)
  rw [show ((BitVec.ofNat 32 c.toNat).toNat : Int) = (c.toNat : Int) by
    rw [BitVec.toNat_ofNat, Nat.mod_eq_of_lt (by have := c.toNat_lt; omega)]] at h
  exact h
set_option maxRecDepth 100000 in
set_option maxHeartbeats 1600000 in
theorem more02_ok {S : Nat → Prop} (s : BitVec 32) (b : Value) (xs : List UInt8) (w : World) (hb : Bs S w b xs) :
    Calls Try.prog 59 #[vu32 s, b] w fun e w' => e = .returned (vu32 (crcMore s xs)) ∧ w' = w := by
  obtain ⟨a, cap, rfl, ⟨hcap, _, hmax⟩, _, h4⟩ := hb
  unfold maxLen at hmax
  have H4 := hid h4
  clear h4
  have h1 := not_u32 s
  have h2 := not_u32 (crcRun (~~~ s) xs)
  unfold crcMore
  generalize ~~~ s = q0 at *
  generalize ~~~ crcRun q0 xs = zz at *
  have H2 := hid h2
  clear h2
  have H1 := hid h1
  clear h1
  unfold vu32
  go_enter Try.func59, Try.ntmps59
  go_wp2
  rw [H1.out]
  go_loop [5, 6] (fun r i => ∃ k : Nat, k ≤ xs.length ∧ i = .int .i64 k ∧ r = vu32 (crcRun q0 (xs.take k))) (fun _ i => xs.length - (intOf i).toNat)
  case atStart => exact ⟨0, by omega, rfl, by rfl⟩
  case round =>
    obtain ⟨k, hk, rfl, rfl⟩ := hrel
    by_cases hlt : k < xs.length
    · rcases H4.out with hx | ⟨b, off, ha, hbl, hbt, hcell⟩
      · rw [hx] at hlt; simp at hlt
      subst ha
      have hc : w.cell? ⟨b, off + k, none⟩ = some (.int .u8 (xs[k].toNat : Int)) := hcell k _ (List.getElem?_eq_getElem hlt)
      have HN := hid (crcRun_next q0 xs k hlt)
      have hd : decide ((k : Int) < (xs.length : Int)) = true := by simp; omega
      have hxb := bits_xor_byte (crcRun q0 (xs.take k)) xs[k]
      have hx8 := u8_lt xs[k]
      have hx0 : (0 : Int) ≤ (xs[k].toNat : Int) := by omega
      clear hcell
      generalize crcRun q0 (xs.take k) ^^^ BitVec.ofNat 32 xs[k].toNat = z at *
      generalize xs[k].toNat = x at *
      generalize crcRun q0 (xs.take k) = q at *
      have hq0 : (0 : Int) ≤ (q.toNat : Int) := by omega
      have hq1 : (q.toNat : Int) < 4294967296 := by have := q.isLt; omega
      unfold vu32
      go_wp2
      try rw [hxb]
      go_loop [5, 7] (fun r j => ∃ m : Nat, m ≤ 8 ∧ j = .int .i64 m ∧ r = vu32 (halfs m z)) (fun _ j => 8 - (intOf j).toNat)
      case atStart => exact ⟨0, by omega, rfl, rfl⟩
      case round =>
        obtain ⟨m, hm, rfl, rfl⟩ := hrel
        by_cases hm8 : m < 8
        · have hdm : decide ((m : Int) < 8) = true := by simp; omega
          have HO := hid (odd_u32 (halfs m z))
          have HS := hid (show half (halfs m z) = halfs (m + 1) z from rfl)
          generalize halfs m z = p at *
          have hp0 : (0 : Int) ≤ (p.toNat : Int) := by omega
          have hp1 : (p.toNat : Int) < 4294967296 := by have := p.isLt; omega
          unfold vu32
          cases hr : p.getLsbD 0 with
          | true =>
            have ho : ((p.toNat : Int) % 2 == 1) = true := by rw [HO.out, hr]
            have ho2 : (p.toNat : Int) % 2 = 1 := by simpa using ho
            have hh := half_odd p hr
            have HH := hid hh
            clear hr
            go_wp2
            go_round
            case rel => exact ⟨m + 1, by omega, by go_num, by rw [← HS.out]; all_goals exact congrArg (Value.int .u32) HH.out⟩
            case measure => simp [intOf]; omega
          | false =>
            have ho : ((p.toNat : Int) % 2 == 1) = false := by rw [HO.out, hr]
            have ho2 : (p.toNat : Int) % 2 = 0 := by have : ¬ (p.toNat : Int) % 2 = 1 := by simpa using ho
                                                     omega
            have HH := hid (half_even p hr)
            clear hr
            go_wp2
            go_round
            case rel => exact ⟨m + 1, by omega, by go_num, by rw [← HS.out]; all_goals exact congrArg (Value.int .u32) HH.out⟩
            case measure => simp [intOf]; omega
        · obtain rfl : m = 8 := by omega
          unfold vu32
          go_wp2
          go_round
          case rel => exact ⟨k + 1, by omega, by go_num, by rw [HN.out]⟩
          case measure => simp [intOf]; omega
    · obtain rfl : k = xs.length := by omega
      have hrun : crcRun q0 (xs.take xs.length) = crcRun q0 xs := by rw [List.take_length]
      rw [hrun]
      unfold vu32
      go_wp2
      go_ret
      exact ⟨ret_int H2.out, rfl⟩
set_option maxRecDepth 100000 in
theorem sum02_ok {S : Nat → Prop} (b : Value) (xs : List UInt8) (w : World) (hb : Bs S w b xs) :
    Calls Try.prog 50 #[b] w fun e w' => e = .returned (vu32 (crcSum xs)) ∧ w' = w := by
  have HR := hid (more02_ok 0 b xs w hb)
  clear hb
  unfold crcSum
  unfold vu32 at HR ⊢
  rw [show (((0 : BitVec 32).toNat : Nat) : Int) = 0 from rfl] at HR
  go_enter Try.func50, Try.ntmps50
  go_wp2_with (go_at_call 59; refine (HR.out).mono ?_; rintro e w1 ⟨rfl, rfl⟩)
  go_ret
  exact ⟨rfl, rfl⟩
set_option maxRecDepth 100000 in
set_option maxHeartbeats 800000 in
theorem seal02_ok {S : Nat → Prop} (b : Value) (xs : List UInt8) (w : World) (hb : Bs S w b xs) (hlen : xs.length ≤ 1099511627776) :
    Calls Try.prog 25 #[b] w fun e w' => ∃ v', e = .returned v' ∧ OwnB w' w.heap.size v' (sealed xs) ∧ Below w.heap.size w w' := by
  have HR := hid (sum02_ok b xs w hb)
  have HB := hid hb
  clear hb
  unfold vu32 at HR
  go_enter Try.func25, Try.ntmps25
  have HRow := hid HB.out.row
  obtain ⟨a, c, rfl, ⟨hlc, hlim, hcm⟩, _, h4⟩ := HB.out
  clear h4
  unfold maxLen at hcm
  go_wp2_with (first | (go_at_call 50; refine (HR.out).mono ?_; rintro e w1 ⟨rfl, rfl⟩) | (at_builtin; go_loud (refine wpl_append (S := S) (base := w1.heap.size + 1) (n := 0) (xs := []) rfl rfl etB rfl (own_empty _ _ _ _ _) rfl (HRow.out.fr ((Fr.refl (fun _ => False) w1).alloc _) (fun _ _ h => h.elim)) (bcells_one _) (by omega) (by simp) ?_); intro v3 w3 ho3 hf3 hm3; simp only [Nat.zero_add, List.nil_append] at ho3; obtain ⟨a3, c3, rfl, _⟩ := ho3.len; have T3 := hid (show Below w1.heap.size w1 w3 from Below.fr ((Below.refl _ _).alloc (Nat.le_refl _) _) hf3 (fun q hq hm => by obtain ⟨_, _, c', hv, hc⟩ := hm; injection hv with _ _ e3; omega)); have O3 := hid ho3; have F3 := hid hf3; clear ho3 hf3 hm3) | (at_builtin; go_loud (refine wpl_append (S := fun _ => False) (base := w1.heap.size + 1) rfl rfl etB rfl (Own.fr O3.out ((Fr.refl (fun _ => False) w3).alloc _) (fun _ _ h => h)) rfl (tail_row _ _) (bcells_one _) (by omega) (by have := T3.out.size; have := F3.out.size; simp at *; omega) ?_); intro v4 w4 ho4 hf4 hm4))
  go_ret
  have hl : xs.length + 4 = (sealed xs).length := by simp [sealed, tail4]
  rw [bcells_append] at ho4
  rw [hl] at ho4
  exact ⟨_, rfl, Own.mono ho4 (Nat.le_succ _), Below.fr (T3.out.alloc T3.out.size _) hf4 (fun q hq hm => by have := (Own.mine_ge O3.out hm).1; omega)⟩
/-- Bytes and a fault. -/
def RetB2 (w : World) (r : List UInt8 × Int) (e : Ending) (w' : World) : Prop :=
  ∃ v', e = .returned (.tuple #[v', .int .i64 r.2]) ∧ Bs (fun _ => False) w' v' r.1 ∧ Below w.heap.size w w'
theorem Bs.nil0 (S : Nat → Prop) (w : World) : Bs S w (.slice none 0 0) [] := ⟨none, 0, rfl, ⟨Nat.le_refl _, Nat.zero_le _, Nat.zero_le _⟩, fun _ => rfl, .inl rfl⟩
set_option maxRecDepth 100000 in
set_option maxHeartbeats 1600000 in
theorem open02_ok {S : Nat → Prop} (b : Value) (xs : List UInt8) (w : World) (hb : Bs S w b xs) (hlen : xs.length ≤ 1099511627776) :
    Calls Try.prog 29 #[b] w (RetB2 w (crcOpenF xs)) := by
  have HB := hid hb
  obtain ⟨a, c, rfl, ⟨hlc, hlim, hm⟩, _, h4⟩ := hb
  unfold maxLen at hm
  by_cases hs : xs.length < 4
  · have hd : decide (((xs.length : Int) - 4) < 0) = true := by simp; omega
    rw [crcOpen_short hs]
    clear h4
    go_enter Try.func29, Try.ntmps29
    go_wp2_with fail
    go_ret2
    exact ⟨_, rfl, Bs.nil0 _ _, Below.refl _ _⟩
  · obtain ⟨n, hn⟩ : ∃ n, n = xs.length - 4 := ⟨_, rfl⟩
    have hnl : (xs.length : Int) - 4 = (n : Int) := by omega
    have hn2 : n + 4 = xs.length := by omega
    have hd : decide ((n : Int) < 0) = false := by simp
    have H4 := hid h4
    have HTk := hid (HB.out.take n (by omega))
    have hlk : (xs.take n).length ≤ 1099511627776 := by simp; omega
    have HRF := hid (show crcOpenF xs = if sealed (xs.take n) = xs then (xs.take n, 0) else ([], 4) by rw [crcOpenF, if_neg hs, ← hn])
    generalize crcOpenF xs = res at *
    have hsl : (sealed (xs.take n)).length = xs.length := by simp [sealed, tail4]; omega
    have HTL := hid (show (sealed (xs.take n)).take n = xs.take n by rw [sealed, List.take_append_of_le_length (by rw [List.length_take]; omega), List.take_of_length_le (by rw [List.length_take]; omega)])
    clear h4 hn hs
    go_enter Try.func29, Try.ntmps29
    go_wp2_with (go_at_call 25; refine (seal02_ok _ _ _ HTk.out hlk).mono ?_; rintro e w1 ⟨v1, rfl, ho1, hb1⟩; have HX := hid (ho1.bs (S := fun _ => False) (fun _ _ _ h => h)); obtain ⟨a1, c1, rfl, ⟨hlc1, hlim1, hm1⟩, _, h41⟩ := HX.out; have H41 := hid h41; have HB1 := hid hb1; clear ho1 h41 hb1)
    unfold maxLen at hm1
    have HBX := hid (HB.out.fr (Fr.of_below HB1.out : Fr (fun _ => False) _ _) (fun _ _ h => h.elim))
    obtain ⟨_, _, hsl', _, _, h4'⟩ := HBX.out
    injection hsl' with e1 _ e3
    subst e1 e3
    have H4' := hid h4'
    obtain ⟨zs, hzs⟩ : ∃ zs, zs = xs.take n := ⟨_, rfl⟩
    rw [← hzs] at HTL HRF HTk hlk hsl HX hlc1 hlim1 H41
    have HTN := hid hzs
    clear hzs
    clear h4'
    generalize sealed zs = ys at *
    go_loopw [6] (fun i wr => ∃ k m : Nat, n ≤ k ∧ k ≤ xs.length ∧ i = .int .i64 k ∧ ys.take k = xs.take k ∧ wr = w1.drewN m) (fun i _ => xs.length - (intOf i).toNat)
    case atStart => exact ⟨n, 0, Nat.le_refl _, by omega, rfl, by rw [HTL.out, HTN.out], rfl⟩
    case round =>
      obtain ⟨k, m, hnk, hk, rfl, htk, rfl⟩ := hrel
      have HTK := hid htk
      clear htk
      by_cases hlt : k < xs.length
      · rcases H4'.out with hx | ⟨b, off, ha, hbl, _, hcell⟩
        · rw [hx] at hlt; simp at hlt
        rcases H41.out with hx | ⟨b', off', ha', hbl', _, hcell'⟩
        · rw [hx] at hsl; simp only [List.length_nil] at hsl; omega
        subst ha ha'
        have hky : k < ys.length := by omega
        have hcx : w1.cell? ⟨b, off + k, none⟩ = some (.int .u8 (xs[k].toNat : Int)) := hcell k _ (List.getElem?_eq_getElem hlt)
        have hcy : w1.cell? ⟨b', off' + k, none⟩ = some (.int .u8 (ys[k].toNat : Int)) := hcell' k _ (List.getElem?_eq_getElem hky)
        have hd : decide ((k : Int) < (xs.length : Int)) = true := by simp; omega
        clear hcell hcell'
        by_cases he : ys[k] = xs[k]
        · have HT := hid (take_eq_step HTK.out hky hlt he)
          have hb : (((ys[k].toNat : Nat) : Int) != ((xs[k].toNat : Nat) : Int)) = false := by simp [he]
          clear he
          generalize xs[k].toNat = p at *
          generalize ys[k].toNat = q at *
          go_wp2
          go_quiet (fail)
          go_wp2
          go_roundw
          case rel => exact ⟨k + 1, _, by omega, by omega, by go_num, HT.out, rfl⟩
          case measure => simp [intOf]; omega
        · have hb : (((ys[k].toNat : Nat) : Int) != ((xs[k].toNat : Nat) : Int)) = true := by
            simp only [bne_iff_ne, ne_eq]
            intro hh
            exact he (UInt8.toNat_inj.1 (by omega))
          have HE := hid he
          clear he
          go_wp2
          go_quiet (fail)
          go_wp2
          go_ret2
          rw [HRF.out, if_neg (fun h => HE.out (by simp only [h]))]
          exact ⟨_, rfl, Bs.nil0 _ _, below_dN (below_dN HB1.out _) _⟩
      · obtain rfl : k = xs.length := by omega
        have hyx : ys = xs := by
          have h1 := HTK.out
          rwa [List.take_length, List.take_of_length_le (by omega)] at h1
        subst hyx
        go_wp2
        go_ret2
        rw [HRF.out]; first | rw [if_pos rfl] | rw [if_pos trivial]
        exact ⟨_, rfl, by
          have := HX.out.take n (by omega)
          rw [HTL.out] at this
          exact this.fr (Fr.refl (fun _ => False) _ |>.drewN _) (fun _ _ h => h), below_dN HB1.out _⟩
end Go.Proofs.Ytpomfegcifpfkaa
